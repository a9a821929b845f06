/- The loops of the reference's Do. -/
import Derived.Test.YtbbbdhpihcbmmaaPRDo1
import Derived.Deep.RegionHeld3
namespace Go.Proofs.Ytbbbdhpihcbmmaa
open Go.RowKit Own

/-- one byte more -/
theorem push_byte (Y : World) (base m : Nat) (A : Option Addr) (c : Nat) (l : List UInt8) (x : Int) (y : UInt8) (hx : x = (y.toNat : Int)) (hm : Y.heap.size = m) (hown : Y.ownsRow base 5 1 (.slice A l.length c) l.length (u8s l)) (hbase : base ≤ Y.heap.size) (hl : l.length ≤ 1048576) :
    ∃ A' c' W, (appendH #[23, 23] 23 #[.slice A l.length c, .slice (some ⟨m, 0, none⟩) 1 1]).run Try.prog (Y.alloc (.cells #[.int .u8 x] 5)) = .ok (.slice A' (l.length + 1) c') W ∧
      W.ownsRow base 5 1 (.slice A' (l.length + 1) c') (l ++ [y]).length (u8s (l ++ [y])) ∧ Below base Y W := by
  subst hm
  subst hx
  obtain ⟨i0, hi, hz0, hz1, hz2⟩ := info_parts infoByte
  have hb : Below base Y (Y.alloc (.cells #[.int .u8 (y.toNat : Int)] 5)) := (Below.refl _ _).alloc hbase _
  obtain ⟨v', W, hr, ho, hg, _, _⟩ := run_append_own_at (P := Try.prog) (Y.alloc (.cells #[.int .u8 (y.toNat : Int)] 5)) base 23 23 5 i0 (.int .u8 0) 1 1 Try.underlying23 hi hz0 hz1 hz2 rfl (by decide) (.slice A l.length c) l.length (u8s l) (hown.alloc _) ⟨Y.heap.size, 0, none⟩ 1 1 [.int .u8 (y.toNat : Int)] rfl
    (World.news_of_block (cs := #[.int .u8 (y.toNat : Int)]) (t := 5) (fr := (0, 0)) (heap_alloc_new Y _)) (by intro u hu; simp at hu; subst hu; rfl) (by unfold maxLen; omega) (by omega) (Nat.le_trans hbase hb.size)
  obtain ⟨A', c', rfl⟩ := own_slice ho
  refine ⟨A', c', W, hr, ?_, hb.grown hg (Nat.le_trans hbase hb.size) (fun k hk => (hown.lt k hk).1)⟩
  have e : u8s (l ++ [y]) = u8s l ++ [.int .u8 (y.toNat : Int)] := by simp [u8s]
  rw [e, List.length_append]
  exact ho
theorem sizedL_step (b : List UInt8) (j : Nat) : sizedL b (j + 1) = sizedL b j ++ [b.getD j 0] := by
  refine List.ext_getElem? fun i => ?_
  have h1 := sizedL_len b j
  have at_ : ∀ m, (sizedL b m)[i]? = if i < m then some (b.getD i 0) else none := fun m => by
    unfold sizedL
    rw [List.getD_eq_getElem?_getD]
    split
    · rw [List.getElem?_take]
      by_cases h : i < m
      · rw [if_pos h, if_pos h, List.getElem?_eq_getElem (by omega)]; rfl
      · rw [if_neg h, if_neg h]
    · have := padL_at b m i
      unfold padL at this
      rw [this]
      by_cases h : i < b.length
      · rw [if_pos h, if_pos (by omega), List.getElem?_eq_getElem h]; rfl
      · rw [if_neg h, List.getElem?_eq_none (by omega)]; rfl
  rw [at_]
  by_cases h : i < j
  · rw [if_pos (by omega), List.getElem?_append_left (by omega), at_, if_pos h]
  · rw [List.getElem?_append_right (by omega), h1]
    by_cases h2 : i = j
    · subst h2; rw [if_pos (by omega)]; simp
    · rw [if_neg (by omega), List.getElem?_eq_none (by simp; omega)]
theorem sizedL_zero (b : List UInt8) : sizedL b 0 = [] := by simp [sizedL]

set_option maxHeartbeats 8000000 in
theorem rdo_trunc (k : Int) (s : ByteArray) (a : Int) (d : List UInt8) (n : Int) (dv bv : Value) (b : List UInt8) (w : World) (hd : ReadsB w dv d) (hb : ReadsB w bv b) (hbl : b.length ≤ 4096) (hs : s.size ≤ 1048576) (hm : MayC ⟨k, s, a, d, n⟩) (hk1 : (k == 1) = false) (hk2 : (k == 2) = false) (hk3 : (k == 3) = false) (hk4 : (k == 4) = true) (q : Nat) (hq : n = q) (hn : q ≤ 4096) :
    Calls Try.prog 11 #[.agg #[.int .i64 k, .string s, .int .i64 a, dv, .int .i64 n], .agg #[.bool true, bv]] w (RDoPost ⟨0, 0, [], true, sizedL b q⟩ w) := by
  have HMy : Hid (∀ W, RF w ⟨k, s, a, d, n⟩ dv true bv w.heap.size (w.heap.size + 1) (w.heap.size + 1 + 1) (w.heap.size + 1 + 1 + 1) W → Calls Try.prog 10 #[.agg #[.int .i64 k, .string s, .int .i64 a, dv, .int .i64 n]] W fun e w' => e = .returned (.bool true) ∧ RF w ⟨k, s, a, d, n⟩ dv true bv w.heap.size (w.heap.size + 1) (w.heap.size + 1 + 1) (w.heap.size + 1 + 1 + 1) w') := fun W h => by
    have := rf_may h hd hs
    rwa [show mayB ⟨k, s, a, d, n⟩ = true from decide_eq_true hm] at this
  have HS := Lib.hid (rf_start ⟨k, s, a, d, n⟩ dv true bv w)
  simp only [] at HS
  subst hq
  have HBv := Lib.hid hb
  have hnl : ¬ (4096 : Int) < (q : Int) := by omega
  have HQ := Lib.hid (And.intro hn hbl)
  obtain ⟨Ad, cd, rfl⟩ := hd.slice
  obtain ⟨Ab, cb, rfl⟩ := hb.slice
  clear hd hb hbl hs hm hn
  go_enter Try.func11, Try.ntmps11
  go_wp2_with (first
    | (go_at_call 10; refine (HMy.out _ HS.out).mono ?_; rintro e w2 ⟨rfl, hrf⟩; obtain ⟨c0, c1, c2, c3, c4, o0, o1, r0, r1, r2, p0, p1, z0, z1, z2, y0, y1⟩ := hrf.facts; have HD := Lib.hid hrf; clear hrf))
  go_loopw [9, 10] (fun x i wr => ∃ (j : Nat) (o : List UInt8), i = .int .i64 j ∧ j ≤ q ∧ Hid (o = sizedL b j) ∧ wr.ownsRow w2.heap.size 5 1 x o.length (u8s o) ∧ Below w2.heap.size w2 wr) (fun _ i _ => q - (intOf i).toNat)
  case atStart => exact ⟨0, [], rfl, Nat.zero_le _, (sizedL_zero b).symm, World.ownsRow_made w2 #[] 0 (Nat.le_refl _) (by unfold maxLen; omega) rfl, (Below.refl _ _).alloc (Nat.le_refl _) _⟩
  case round =>
    obtain ⟨j, o, rfl, hj, HI, hown, hbel⟩ := hrel
    obtain ⟨wL, rfl⟩ : ∃ wo : World, wo = wr := ⟨_, rfl⟩
    clear c0 c1 c2 c3 c4 o0 o1 r0 r1 r2 p0 p1 z0 z1 z2 y0 y1
    have HW := Lib.hid (And.intro hown hbel)
    have hdf := HD.out.go hbel
    obtain ⟨c0, c1, c2, c3, c4, o0, o1, r0, r1, r2, p0, p1, z0, z1, z2, y0, y1⟩ := hdf.facts
    have HD3 := Lib.hid hdf
    have hol : o.length ≤ 4096 := by have := HQ.out; rw [HI.out, sizedL_len]; omega
    have HOl := Lib.hid hol
    obtain ⟨Ax, cx, rfl⟩ := own_slice hown
    clear hown hbel hdf hol
    by_cases hlt : j < q
    · have k0 : (j : Int) < (q : Int) := by omega
      by_cases hl : j < b.length
      · have k1 : (j : Int) < (b.length : Int) := by omega
        obtain ⟨bd, od, cd2, hue, hud⟩ := ReadsB.at_ (HBv.out.below (HD3.out.below)) (by omega)
        cases hue
        have hdq := hud j hl
        have HE : Hid (b[j]'hl = b.getD j 0) := by show _ = _; rw [List.getD_eq_getElem?_getD, List.getElem?_eq_getElem hl]; rfl
        have q4 : (0 : Int) ≤ (j : Int) := by omega
        generalize b[j]'hl = y at *
        clear hud
        go_wp2_with (at_builtin; refine Own.append_one HW.out.1 HW.out.2 Try.underlying23 infoByte rfl (by decide) [.int .u8 y.toNat] rfl (fun u hu => by simp at hu; subst hu; rfl) (Nat.le_refl _) HW.out.2.size (by have := HOl.out; omega) (by have := HOl.out; omega) rfl rfl rfl rfl ?_; intro v1 w1 hown1 hbel1 _ _ _)
        go_roundw
        case rel =>
          refine ⟨j + 1, o ++ [y], by go_num, by omega, Lib.hid ?_, ?_, hbel1⟩
          · rw [sizedL_step, HI.out, HE.out]
          · have e : u8s (o ++ [y]) = u8s o ++ [.int .u8 (y.toNat : Int)] := by simp [u8s]
            rw [e, List.length_append]; exact hown1
        case measure => simp [intOf]; omega
      · have k1 : ¬ (j : Int) < (b.length : Int) := by omega
        go_wp2_with (at_builtin; refine Own.append_one HW.out.1 HW.out.2 Try.underlying23 infoByte rfl (by decide) [.int .u8 0] rfl (fun u hu => by simp at hu; subst hu; rfl) (Nat.le_refl _) HW.out.2.size (by have := HOl.out; omega) (by have := HOl.out; omega) rfl rfl rfl rfl ?_; intro v1 w1 hown1 hbel1 _ _ _)
        go_roundw
        case rel =>
          refine ⟨j + 1, o ++ [0], by go_num, by omega, Lib.hid ?_, ?_, hbel1⟩
          · rw [sizedL_step, HI.out, List.getD_eq_getElem?_getD, List.getElem?_eq_none (by omega)]; rfl
          · have e : u8s (o ++ [0]) = u8s o ++ [.int .u8 0] := by simp [u8s]
            rw [e, List.length_append]; exact hown1
        case measure => simp [intOf]; omega
    · have k0 : ¬ (j : Int) < (q : Int) := by omega
      have HE : Hid (o = sizedL b q) := by
        have hqe : j = q := by omega
        rw [← hqe]; exact HI
      go_wp2_with fail
      obtain ⟨hbw, hpo⟩ := (HD3.out).fin (.int .i64 0) (.int .i64 0) (.slice none 0 0) (.bool true) (.slice Ax o.length cx)
      exact bodyPost_ret (v := .tuple #[.agg #[.int .i64 0, .int .i64 0, (.slice none 0 0)], .agg #[.bool true, (.slice Ax o.length cx)]]) (by simp [results, Try.results11, go_sem, *]) rfl ⟨_, _, rfl, .inl ⟨rfl, rfl⟩, by rw [← HE.out]; exact (hpo _ _ _ (OwnB.of_row HW.out.1)).reads, hbw⟩
end Go.Proofs.Ytbbbdhpihcbmmaa
