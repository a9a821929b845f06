/- The walk of pipe's Do: refused calls, create, none. -/
import Derived.Test.YtbbbdhpihcbmmaaPDo
namespace Go.Proofs.Ytbbbdhpihcbmmaa
open Go.RowKit Own

theorem mayN_yes {c : CallIn} (h : MayC c) : mayN c = 0 := by unfold mayN; rw [if_pos h]
theorem mayN_no {c : CallIn} (h : ¬ MayC c) : mayN c = 1 := by unfold mayN; rw [if_neg h]
theorem df_clone (c : CallIn) (dv : Value) (has : Bool) (bv : Value) (b : List UInt8) (w : World) (hb : ReadsB w bv b) (hl : b.length ≤ 140737488351232) :
    Calls Try.prog 19 #[bv] (((w.alloc (.cells #[.int .i64 c.k, .string c.s, .int .i64 c.a, dv, .int .i64 c.n] 30)).alloc (.cells #[.bool has] 4)).alloc (.cells #[.int .i64 0, .int .i64 0, .slice none 0 0] 26)) fun e w1 => ∃ A cc, e = .returned (.slice A b.length cc) ∧
      DF w c dv has (.slice A b.length cc) b w.heap.size (w.heap.size + 1) (w.heap.size + 2) w1.heap.size (w1.alloc (.cells #[.slice A b.length cc] 23)) := by
  have hbel : Below w.heap.size w (((w.alloc (.cells #[.int .i64 c.k, .string c.s, .int .i64 c.a, dv, .int .i64 c.n] 30)).alloc (.cells #[.bool has] 4)).alloc (.cells #[.int .i64 0, .int .i64 0, .slice none 0 0] 26)) := (((Below.refl w.heap.size w).alloc (Nat.le_refl _) _).alloc (by simp) _).alloc (by simp; omega) _
  refine (clone_any bv b _ (hb.below hbel) hl).mono ?_
  rintro e w1 ⟨v1, rfl, ho, hb1, _⟩
  obtain ⟨A, cc, rfl⟩ := own_slice ho
  exact ⟨A, cc, rfl, df_start c dv has _ b w w1 hb1 ((OwnB.of_row ho).mono hbel.size)⟩

set_option maxHeartbeats 4000000 in
theorem do_none_bad (k : Int) (s : ByteArray) (a : Int) (d : List UInt8) (n : Int) (dv bv : Value) (w : World) (hd : ReadsB w dv d) (hs : s.size ≤ 140737488351232) (hm : ¬ MayC ⟨k, s, a, d, n⟩) :
    Calls Try.prog 7 #[.agg #[.int .i64 k, .string s, .int .i64 a, dv, .int .i64 n], .bool false, bv] w (DoPost ⟨1, 0, [], false, []⟩ w) := by
  have HCk : Hid (∀ W sv sb, DF w ⟨k, s, a, d, n⟩ dv false sv [] w.heap.size (w.heap.size + 1) (w.heap.size + 2) sb W → Calls Try.prog 15 #[callV ⟨k, s, a, d, n⟩ dv] W fun e w' => e = .returned (.int .i64 1) ∧ DF w ⟨k, s, a, d, n⟩ dv false sv [] w.heap.size (w.heap.size + 1) (w.heap.size + 2) sb w') := fun W sv sb h => by
    have := df_check h hd hs
    rwa [mayN_no hm] at this
  have HRf : Hid (∀ W sv sb, DF w ⟨k, s, a, d, n⟩ dv false sv [] w.heap.size (w.heap.size + 1) (w.heap.size + 2) sb W → _) := fun W sv sb h => df_refused h 1
  have hCl := df_clone ⟨k, s, a, d, n⟩ dv false (.slice none 0 0) [] w (.inl ⟨rfl, rfl⟩) (by simp)
  simp only [List.length_nil] at hCl
  have HCl := Lib.hid hCl
  clear hCl
  obtain ⟨Ad, cd, rfl⟩ := hd.slice
  clear hd hs hm
  go_enter Try.func7, Try.ntmps7
  go_wp2_with (first
    | (go_at_call 19; (with_reducible refine HCl.out.mono ?_); rintro e w1 ⟨A1, cp1, rfl, hdf⟩; obtain ⟨c0, c1, c2, c3, c4, h0, s0, r0, r1, r2, z0, z1, z2⟩ := hdf.facts; have HD1 := Lib.hid hdf; clear hdf)
    | (go_at_call 15; refine (HCk.out _ _ _ HD1.out).mono ?_; clear c0 c1 c2 c3 c4 h0 s0 r0 r1 r2 z0 z1 z2; rintro e w2 ⟨rfl, hdf⟩; obtain ⟨c0, c1, c2, c3, c4, h0, s0, r0, r1, r2, z0, z1, z2⟩ := hdf.facts; have HD2 := Lib.hid hdf; clear hdf)
    | (go_at_call 20; refine (HRf.out _ _ _ HD2.out).mono ?_; clear c0 c1 c2 c3 c4 h0 s0 r0 r1 r2 z0 z1 z2; rintro e w3 ⟨rfl, hdf⟩; obtain ⟨c0, c1, c2, c3, c4, h0, s0, r0, r1, r2, z0, z1, z2⟩ := hdf.facts; have HD3 := Lib.hid hdf; clear hdf))
  obtain ⟨hbw, hpo⟩ := HD3.out.fin (.int .i64 1) (.int .i64 0) (.slice none 0 0)
  exact bodyPost_ret (v := .tuple #[.agg #[.int .i64 1, .int .i64 0, (.slice none 0 0)], .bool false, (.slice A1 0 cp1)]) (by simp [results, Try.results7, go_sem, *]) rfl ⟨_, _, rfl, .inl ⟨rfl, rfl⟩, hpo _ _ _ HD3.out.own, hbw⟩

set_option maxHeartbeats 4000000 in
theorem do_some_bad (k : Int) (s : ByteArray) (a : Int) (d : List UInt8) (n : Int) (dv bv : Value) (b : List UInt8) (w : World) (hd : ReadsB w dv d) (hb : ReadsB w bv b) (hbl : b.length ≤ 4096) (hs : s.size ≤ 140737488351232) (hm : ¬ MayC ⟨k, s, a, d, n⟩) :
    Calls Try.prog 7 #[.agg #[.int .i64 k, .string s, .int .i64 a, dv, .int .i64 n], .bool true, bv] w (DoPost ⟨1, 0, [], true, b⟩ w) := by
  have HCk : Hid (∀ W sv sb, DF w ⟨k, s, a, d, n⟩ dv true sv b w.heap.size (w.heap.size + 1) (w.heap.size + 2) sb W → Calls Try.prog 15 #[callV ⟨k, s, a, d, n⟩ dv] W fun e w' => e = .returned (.int .i64 1) ∧ DF w ⟨k, s, a, d, n⟩ dv true sv b w.heap.size (w.heap.size + 1) (w.heap.size + 2) sb w') := fun W sv sb h => by
    have := df_check h hd hs
    rwa [mayN_no hm] at this
  have HRf : Hid (∀ W sv sb, DF w ⟨k, s, a, d, n⟩ dv true sv b w.heap.size (w.heap.size + 1) (w.heap.size + 2) sb W → _) := fun W sv sb h => df_refused h 1
  have HCl := Lib.hid (df_clone ⟨k, s, a, d, n⟩ dv true bv b w hb (by omega))
  obtain ⟨Ad, cd, rfl⟩ := hd.slice
  obtain ⟨Ab, cb, rfl⟩ := hb.slice
  clear hd hb hbl hs hm
  go_enter Try.func7, Try.ntmps7
  go_wp2_with (first
    | (go_at_call 19; (with_reducible refine HCl.out.mono ?_); rintro e w1 ⟨A1, cp1, rfl, hdf⟩; obtain ⟨c0, c1, c2, c3, c4, h0, s0, r0, r1, r2, z0, z1, z2⟩ := hdf.facts; have HD1 := Lib.hid hdf; clear hdf)
    | (go_at_call 15; refine (HCk.out _ _ _ HD1.out).mono ?_; clear c0 c1 c2 c3 c4 h0 s0 r0 r1 r2 z0 z1 z2; rintro e w2 ⟨rfl, hdf⟩; obtain ⟨c0, c1, c2, c3, c4, h0, s0, r0, r1, r2, z0, z1, z2⟩ := hdf.facts; have HD2 := Lib.hid hdf; clear hdf)
    | (go_at_call 20; refine (HRf.out _ _ _ HD2.out).mono ?_; clear c0 c1 c2 c3 c4 h0 s0 r0 r1 r2 z0 z1 z2; rintro e w3 ⟨rfl, hdf⟩; obtain ⟨c0, c1, c2, c3, c4, h0, s0, r0, r1, r2, z0, z1, z2⟩ := hdf.facts; have HD3 := Lib.hid hdf; clear hdf))
  obtain ⟨hbw, hpo⟩ := HD3.out.fin (.int .i64 1) (.int .i64 0) (.slice none 0 0)
  exact bodyPost_ret (v := .tuple #[.agg #[.int .i64 1, .int .i64 0, (.slice none 0 0)], .bool true, (.slice A1 b.length cp1)]) (by simp [results, Try.results7, go_sem, *]) rfl ⟨_, _, rfl, .inl ⟨rfl, rfl⟩, hpo _ _ _ HD3.out.own, hbw⟩

set_option maxHeartbeats 4000000 in
theorem do_none_other (k : Int) (s : ByteArray) (a : Int) (d : List UInt8) (n : Int) (dv bv : Value) (w : World) (hd : ReadsB w dv d) (hs : s.size ≤ 140737488351232) (hm : MayC ⟨k, s, a, d, n⟩) (hk1 : (k == 1) = false) :
    Calls Try.prog 7 #[.agg #[.int .i64 k, .string s, .int .i64 a, dv, .int .i64 n], .bool false, bv] w (DoPost ⟨4, 0, [], false, []⟩ w) := by
  have HCk : Hid (∀ W sv sb, DF w ⟨k, s, a, d, n⟩ dv false sv [] w.heap.size (w.heap.size + 1) (w.heap.size + 2) sb W → Calls Try.prog 15 #[callV ⟨k, s, a, d, n⟩ dv] W fun e w' => e = .returned (.int .i64 0) ∧ DF w ⟨k, s, a, d, n⟩ dv false sv [] w.heap.size (w.heap.size + 1) (w.heap.size + 2) sb w') := fun W sv sb h => by
    have := df_check h hd hs
    rwa [mayN_yes hm] at this
  have HRf : Hid (∀ W sv sb, DF w ⟨k, s, a, d, n⟩ dv false sv [] w.heap.size (w.heap.size + 1) (w.heap.size + 2) sb W → _) := fun W sv sb h => df_refused h 4
  have hCl := df_clone ⟨k, s, a, d, n⟩ dv false (.slice none 0 0) [] w (.inl ⟨rfl, rfl⟩) (by simp)
  simp only [List.length_nil] at hCl
  have HCl := Lib.hid hCl
  clear hCl
  obtain ⟨Ad, cd, rfl⟩ := hd.slice
  clear hd hs hm
  go_enter Try.func7, Try.ntmps7
  go_wp2_with (first
    | (go_at_call 19; (with_reducible refine HCl.out.mono ?_); rintro e w1 ⟨A1, cp1, rfl, hdf⟩; obtain ⟨c0, c1, c2, c3, c4, h0, s0, r0, r1, r2, z0, z1, z2⟩ := hdf.facts; have HD1 := Lib.hid hdf; clear hdf)
    | (go_at_call 15; refine (HCk.out _ _ _ HD1.out).mono ?_; clear c0 c1 c2 c3 c4 h0 s0 r0 r1 r2 z0 z1 z2; rintro e w2 ⟨rfl, hdf⟩; obtain ⟨c0, c1, c2, c3, c4, h0, s0, r0, r1, r2, z0, z1, z2⟩ := hdf.facts; have HD2 := Lib.hid hdf; clear hdf)
    | (go_at_call 20; refine (HRf.out _ _ _ HD2.out).mono ?_; clear c0 c1 c2 c3 c4 h0 s0 r0 r1 r2 z0 z1 z2; rintro e w3 ⟨rfl, hdf⟩; obtain ⟨c0, c1, c2, c3, c4, h0, s0, r0, r1, r2, z0, z1, z2⟩ := hdf.facts; have HD3 := Lib.hid hdf; clear hdf))
  obtain ⟨hbw, hpo⟩ := HD3.out.fin (.int .i64 4) (.int .i64 0) (.slice none 0 0)
  exact bodyPost_ret (v := .tuple #[.agg #[.int .i64 4, .int .i64 0, (.slice none 0 0)], .bool false, (.slice A1 0 cp1)]) (by simp [results, Try.results7, go_sem, *]) rfl ⟨_, _, rfl, .inl ⟨rfl, rfl⟩, hpo _ _ _ HD3.out.own, hbw⟩

set_option maxHeartbeats 4000000 in
theorem do_some_create (k : Int) (s : ByteArray) (a : Int) (d : List UInt8) (n : Int) (dv bv : Value) (b : List UInt8) (w : World) (hd : ReadsB w dv d) (hb : ReadsB w bv b) (hbl : b.length ≤ 4096) (hs : s.size ≤ 140737488351232) (hm : MayC ⟨k, s, a, d, n⟩) (hk1 : (k == 1) = true) :
    Calls Try.prog 7 #[.agg #[.int .i64 k, .string s, .int .i64 a, dv, .int .i64 n], .bool true, bv] w (DoPost ⟨6, 0, [], true, b⟩ w) := by
  have HCk : Hid (∀ W sv sb, DF w ⟨k, s, a, d, n⟩ dv true sv b w.heap.size (w.heap.size + 1) (w.heap.size + 2) sb W → Calls Try.prog 15 #[callV ⟨k, s, a, d, n⟩ dv] W fun e w' => e = .returned (.int .i64 0) ∧ DF w ⟨k, s, a, d, n⟩ dv true sv b w.heap.size (w.heap.size + 1) (w.heap.size + 2) sb w') := fun W sv sb h => by
    have := df_check h hd hs
    rwa [mayN_yes hm] at this
  have HRf : Hid (∀ W sv sb, DF w ⟨k, s, a, d, n⟩ dv true sv b w.heap.size (w.heap.size + 1) (w.heap.size + 2) sb W → _) := fun W sv sb h => df_refused h 6
  have HCl := Lib.hid (df_clone ⟨k, s, a, d, n⟩ dv true bv b w hb (by omega))
  obtain ⟨Ad, cd, rfl⟩ := hd.slice
  obtain ⟨Ab, cb, rfl⟩ := hb.slice
  clear hd hb hbl hs hm
  go_enter Try.func7, Try.ntmps7
  go_wp2_with (first
    | (go_at_call 19; (with_reducible refine HCl.out.mono ?_); rintro e w1 ⟨A1, cp1, rfl, hdf⟩; obtain ⟨c0, c1, c2, c3, c4, h0, s0, r0, r1, r2, z0, z1, z2⟩ := hdf.facts; have HD1 := Lib.hid hdf; clear hdf)
    | (go_at_call 15; refine (HCk.out _ _ _ HD1.out).mono ?_; clear c0 c1 c2 c3 c4 h0 s0 r0 r1 r2 z0 z1 z2; rintro e w2 ⟨rfl, hdf⟩; obtain ⟨c0, c1, c2, c3, c4, h0, s0, r0, r1, r2, z0, z1, z2⟩ := hdf.facts; have HD2 := Lib.hid hdf; clear hdf)
    | (go_at_call 20; refine (HRf.out _ _ _ HD2.out).mono ?_; clear c0 c1 c2 c3 c4 h0 s0 r0 r1 r2 z0 z1 z2; rintro e w3 ⟨rfl, hdf⟩; obtain ⟨c0, c1, c2, c3, c4, h0, s0, r0, r1, r2, z0, z1, z2⟩ := hdf.facts; have HD3 := Lib.hid hdf; clear hdf))
  obtain ⟨hbw, hpo⟩ := HD3.out.fin (.int .i64 6) (.int .i64 0) (.slice none 0 0)
  exact bodyPost_ret (v := .tuple #[.agg #[.int .i64 6, .int .i64 0, (.slice none 0 0)], .bool true, (.slice A1 b.length cp1)]) (by simp [results, Try.results7, go_sem, *]) rfl ⟨_, _, rfl, .inl ⟨rfl, rfl⟩, hpo _ _ _ HD3.out.own, hbw⟩

set_option maxHeartbeats 4000000 in
theorem do_none_create (k : Int) (s : ByteArray) (a : Int) (d : List UInt8) (n : Int) (dv bv : Value) (w : World) (hd : ReadsB w dv d) (hs : s.size ≤ 140737488351232) (hm : MayC ⟨k, s, a, d, n⟩) (hk1 : (k == 1) = true) :
    Calls Try.prog 7 #[.agg #[.int .i64 k, .string s, .int .i64 a, dv, .int .i64 n], .bool false, bv] w (DoPost ⟨0, 0, [], true, []⟩ w) := by
  have HCk : Hid (∀ W sv sb, DF w ⟨k, s, a, d, n⟩ dv false sv [] w.heap.size (w.heap.size + 1) (w.heap.size + 2) sb W → Calls Try.prog 15 #[callV ⟨k, s, a, d, n⟩ dv] W fun e w' => e = .returned (.int .i64 0) ∧ DF w ⟨k, s, a, d, n⟩ dv false sv [] w.heap.size (w.heap.size + 1) (w.heap.size + 2) sb w') := fun W sv sb h => by
    have := df_check h hd hs
    rwa [mayN_yes hm] at this
  have hCl := df_clone ⟨k, s, a, d, n⟩ dv false (.slice none 0 0) [] w (.inl ⟨rfl, rfl⟩) (by simp)
  simp only [List.length_nil] at hCl
  have HCl := Lib.hid hCl
  clear hCl
  obtain ⟨Ad, cd, rfl⟩ := hd.slice
  clear hd hs hm
  go_enter Try.func7, Try.ntmps7
  go_wp2_with (first
    | (go_at_call 19; (with_reducible refine HCl.out.mono ?_); rintro e w1 ⟨A1, cp1, rfl, hdf⟩; obtain ⟨c0, c1, c2, c3, c4, h0, s0, r0, r1, r2, z0, z1, z2⟩ := hdf.facts; have HD1 := Lib.hid hdf; clear hdf)
    | (go_at_call 15; refine (HCk.out _ _ _ HD1.out).mono ?_; clear c0 c1 c2 c3 c4 h0 s0 r0 r1 r2 z0 z1 z2; rintro e w2 ⟨rfl, hdf⟩; obtain ⟨c0, c1, c2, c3, c4, h0, s0, r0, r1, r2, z0, z1, z2⟩ := hdf.facts; have HD2 := Lib.hid hdf; clear hdf))
  obtain ⟨hbw, hpo⟩ := HD2.out.fin (.int .i64 0) (.int .i64 0) (.slice none 0 0)
  exact bodyPost_ret (v := .tuple #[.agg #[.int .i64 0, .int .i64 0, (.slice none 0 0)], .bool true, (.slice none 0 0)]) (by simp [results, Try.results7, go_sem, *]) rfl ⟨_, _, rfl, .inl ⟨rfl, rfl⟩, .inl ⟨rfl, rfl⟩, hbw⟩

set_option maxHeartbeats 4000000 in
theorem do_write_no (k : Int) (s : ByteArray) (a : Int) (d : List UInt8) (n : Int) (dv bv : Value) (b : List UInt8) (w : World) (hd : ReadsB w dv d) (hb : ReadsB w bv b) (hbl : b.length ≤ 4096) (hs : s.size ≤ 140737488351232) (hm : MayC ⟨k, s, a, d, n⟩) (hk1 : (k == 1) = false) (hk2 : (k == 2) = true) (q : Nat) (hq : a = q) (ha : q ≤ 9223372036854775807) (hw : writtenR b q d = none) :
    Calls Try.prog 7 #[.agg #[.int .i64 k, .string s, .int .i64 a, dv, .int .i64 n], .bool true, bv] w (DoPost ⟨3, 0, [], true, b⟩ w) := by
  have HCk : Hid (∀ W sv sb, DF w ⟨k, s, a, d, n⟩ dv true sv b w.heap.size (w.heap.size + 1) (w.heap.size + 2) sb W → Calls Try.prog 15 #[callV ⟨k, s, a, d, n⟩ dv] W fun e w' => e = .returned (.int .i64 0) ∧ DF w ⟨k, s, a, d, n⟩ dv true sv b w.heap.size (w.heap.size + 1) (w.heap.size + 2) sb w') := fun W sv sb h => by
    have := df_check h hd hs
    rwa [mayN_yes hm] at this
  have HRf : Hid (∀ W sv sb, DF w ⟨k, s, a, d, n⟩ dv true sv b w.heap.size (w.heap.size + 1) (w.heap.size + 2) sb W → _) := fun W sv sb h => df_refused h 3
  have HCl := Lib.hid (df_clone ⟨k, s, a, d, n⟩ dv true bv b w hb (by omega))
  have hdl : d.length ≤ 4096 := hm.2.2.2.2.2.1
  have HWr : Hid (∀ W, Below w.heap.size w W → Calls Try.prog 21 #[bv, .int .i64 (q : Nat), dv] W fun e w' => e = .returned (.tuple #[.slice none 0 0, .bool false]) ∧ Below W.heap.size W w') := fun W hW => by
    have := written_any bv dv b d q W (hb.below hW) (hd.below hW) hbl hdl ha
    rw [hw] at this
    exact this
  subst hq
  obtain ⟨Ad, cd, rfl⟩ := hd.slice
  obtain ⟨Ab, cb, rfl⟩ := hb.slice
  clear hd hb hbl hs hm hw hdl ha
  go_enter Try.func7, Try.ntmps7
  go_wp2_with (first
    | (go_at_call 19; (with_reducible refine HCl.out.mono ?_); rintro e w1 ⟨A1, cp1, rfl, hdf⟩; obtain ⟨c0, c1, c2, c3, c4, h0, s0, r0, r1, r2, z0, z1, z2⟩ := hdf.facts; have HD1 := Lib.hid hdf; clear hdf)
    | (go_at_call 15; refine (HCk.out _ _ _ HD1.out).mono ?_; clear c0 c1 c2 c3 c4 h0 s0 r0 r1 r2 z0 z1 z2; rintro e w2 ⟨rfl, hdf⟩; obtain ⟨c0, c1, c2, c3, c4, h0, s0, r0, r1, r2, z0, z1, z2⟩ := hdf.facts; have HD2 := Lib.hid hdf; clear hdf)
    | (go_at_call 21; refine (HWr.out _ HD2.out.below).mono ?_; clear c0 c1 c2 c3 c4 h0 s0 r0 r1 r2 z0 z1 z2; rintro e w3 ⟨rfl, hbb⟩; have hdf := HD2.out.go hbb; obtain ⟨c0, c1, c2, c3, c4, h0, s0, r0, r1, r2, z0, z1, z2⟩ := hdf.facts; have HD3 := Lib.hid hdf; clear hdf hbb)
    | (go_at_call 20; refine (HRf.out _ _ _ HD3.out).mono ?_; clear c0 c1 c2 c3 c4 h0 s0 r0 r1 r2 z0 z1 z2; rintro e w4 ⟨rfl, hdf⟩; obtain ⟨c0, c1, c2, c3, c4, h0, s0, r0, r1, r2, z0, z1, z2⟩ := hdf.facts; have HD4 := Lib.hid hdf; clear hdf))
  obtain ⟨hbw, hpo⟩ := HD4.out.fin (.int .i64 3) (.int .i64 0) (.slice none 0 0)
  exact bodyPost_ret (v := .tuple #[.agg #[.int .i64 3, .int .i64 0, (.slice none 0 0)], .bool true, (.slice A1 b.length cp1)]) (by simp [results, Try.results7, go_sem, *]) rfl ⟨_, _, rfl, .inl ⟨rfl, rfl⟩, hpo _ _ _ HD4.out.own, hbw⟩

set_option maxHeartbeats 4000000 in
theorem do_write_yes (k : Int) (s : ByteArray) (a : Int) (d : List UInt8) (n : Int) (dv bv : Value) (b : List UInt8) (w : World) (hd : ReadsB w dv d) (hb : ReadsB w bv b) (hbl : b.length ≤ 4096) (hs : s.size ≤ 140737488351232) (hm : MayC ⟨k, s, a, d, n⟩) (hk1 : (k == 1) = false) (hk2 : (k == 2) = true) (o : List UInt8) (q : Nat) (hq : a = q) (ha : q ≤ 9223372036854775807) (hw : writtenR b q d = some o) :
    Calls Try.prog 7 #[.agg #[.int .i64 k, .string s, .int .i64 a, dv, .int .i64 n], .bool true, bv] w (DoPost ⟨0, 0, [], true, o⟩ w) := by
  have HCk : Hid (∀ W sv sb, DF w ⟨k, s, a, d, n⟩ dv true sv b w.heap.size (w.heap.size + 1) (w.heap.size + 2) sb W → Calls Try.prog 15 #[callV ⟨k, s, a, d, n⟩ dv] W fun e w' => e = .returned (.int .i64 0) ∧ DF w ⟨k, s, a, d, n⟩ dv true sv b w.heap.size (w.heap.size + 1) (w.heap.size + 2) sb w') := fun W sv sb h => by
    have := df_check h hd hs
    rwa [mayN_yes hm] at this
  have HCl := Lib.hid (df_clone ⟨k, s, a, d, n⟩ dv true bv b w hb (by omega))
  have hdl : d.length ≤ 4096 := hm.2.2.2.2.2.1
  have HWr : Hid (∀ W, Below w.heap.size w W → Calls Try.prog 21 #[bv, .int .i64 (q : Nat), dv] W fun e w' => ∃ v', e = .returned (.tuple #[v', .bool true]) ∧ OwnB W.heap.size v' o w' ∧ Below W.heap.size W w') := fun W hW => by
    have := written_any bv dv b d q W (hb.below hW) (hd.below hW) hbl hdl ha
    rw [hw] at this
    exact this
  subst hq
  obtain ⟨Ad, cd, rfl⟩ := hd.slice
  obtain ⟨Ab, cb, rfl⟩ := hb.slice
  clear hd hb hbl hs hm hw hdl ha
  go_enter Try.func7, Try.ntmps7
  go_wp2_with (first
    | (go_at_call 19; (with_reducible refine HCl.out.mono ?_); rintro e w1 ⟨A1, cp1, rfl, hdf⟩; obtain ⟨c0, c1, c2, c3, c4, h0, s0, r0, r1, r2, z0, z1, z2⟩ := hdf.facts; have HD1 := Lib.hid hdf; clear hdf)
    | (go_at_call 15; refine (HCk.out _ _ _ HD1.out).mono ?_; clear c0 c1 c2 c3 c4 h0 s0 r0 r1 r2 z0 z1 z2; rintro e w2 ⟨rfl, hdf⟩; obtain ⟨c0, c1, c2, c3, c4, h0, s0, r0, r1, r2, z0, z1, z2⟩ := hdf.facts; have HD2 := Lib.hid hdf; clear hdf)
    | (go_at_call 21; refine (HWr.out _ HD2.out.below).mono ?_; clear c0 c1 c2 c3 c4 h0 s0 r0 r1 r2 z0 z1 z2; rintro e w3 ⟨v3, rfl, ho, hbb⟩; have hdf := HD2.out.go hbb; obtain ⟨c0, c1, c2, c3, c4, h0, s0, r0, r1, r2, z0, z1, z2⟩ := hdf.facts; have HD3 := Lib.hid hdf; have HO := Lib.hid ho; clear ho; clear hdf hbb))
  obtain ⟨hbw, hpo⟩ := HD3.out.fin (.int .i64 0) (.int .i64 0) (.slice none 0 0)
  exact bodyPost_ret (v := .tuple #[.agg #[.int .i64 0, .int .i64 0, (.slice none 0 0)], .bool true, v3]) (by simp [results, Try.results7, go_sem, *]) rfl ⟨_, _, rfl, .inl ⟨rfl, rfl⟩, hpo _ _ _ (HO.out.mono HD2.out.below.size), hbw⟩

set_option maxHeartbeats 4000000 in
theorem do_append_no (k : Int) (s : ByteArray) (a : Int) (d : List UInt8) (n : Int) (dv bv : Value) (b : List UInt8) (w : World) (hd : ReadsB w dv d) (hb : ReadsB w bv b) (hbl : b.length ≤ 4096) (hs : s.size ≤ 140737488351232) (hm : MayC ⟨k, s, a, d, n⟩) (hk1 : (k == 1) = false) (hk2 : (k == 2) = false) (hk3 : (k == 3) = true) (hw : writtenR b b.length d = none) :
    Calls Try.prog 7 #[.agg #[.int .i64 k, .string s, .int .i64 a, dv, .int .i64 n], .bool true, bv] w (DoPost ⟨3, 0, [], true, b⟩ w) := by
  have HCk : Hid (∀ W sv sb, DF w ⟨k, s, a, d, n⟩ dv true sv b w.heap.size (w.heap.size + 1) (w.heap.size + 2) sb W → Calls Try.prog 15 #[callV ⟨k, s, a, d, n⟩ dv] W fun e w' => e = .returned (.int .i64 0) ∧ DF w ⟨k, s, a, d, n⟩ dv true sv b w.heap.size (w.heap.size + 1) (w.heap.size + 2) sb w') := fun W sv sb h => by
    have := df_check h hd hs
    rwa [mayN_yes hm] at this
  have HRf : Hid (∀ W sv sb, DF w ⟨k, s, a, d, n⟩ dv true sv b w.heap.size (w.heap.size + 1) (w.heap.size + 2) sb W → _) := fun W sv sb h => df_refused h 3
  have HCl := Lib.hid (df_clone ⟨k, s, a, d, n⟩ dv true bv b w hb (by omega))
  have hdl : d.length ≤ 4096 := hm.2.2.2.2.2.1
  have HWr : Hid (∀ W, Below w.heap.size w W → Calls Try.prog 21 #[bv, .int .i64 (b.length : Nat), dv] W fun e w' => e = .returned (.tuple #[.slice none 0 0, .bool false]) ∧ Below W.heap.size W w') := fun W hW => by
    have := written_any bv dv b d b.length W (hb.below hW) (hd.below hW) hbl hdl (by omega)
    rw [hw] at this
    exact this
  obtain ⟨Ad, cd, rfl⟩ := hd.slice
  obtain ⟨Ab, cb, rfl⟩ := hb.slice
  clear hd hb hbl hs hm hw hdl
  go_enter Try.func7, Try.ntmps7
  go_wp2_with (first
    | (go_at_call 19; (with_reducible refine HCl.out.mono ?_); rintro e w1 ⟨A1, cp1, rfl, hdf⟩; obtain ⟨c0, c1, c2, c3, c4, h0, s0, r0, r1, r2, z0, z1, z2⟩ := hdf.facts; have HD1 := Lib.hid hdf; clear hdf)
    | (go_at_call 15; refine (HCk.out _ _ _ HD1.out).mono ?_; clear c0 c1 c2 c3 c4 h0 s0 r0 r1 r2 z0 z1 z2; rintro e w2 ⟨rfl, hdf⟩; obtain ⟨c0, c1, c2, c3, c4, h0, s0, r0, r1, r2, z0, z1, z2⟩ := hdf.facts; have HD2 := Lib.hid hdf; clear hdf)
    | (go_at_call 21; refine (HWr.out _ HD2.out.below).mono ?_; clear c0 c1 c2 c3 c4 h0 s0 r0 r1 r2 z0 z1 z2; rintro e w3 ⟨rfl, hbb⟩; have hdf := HD2.out.go hbb; obtain ⟨c0, c1, c2, c3, c4, h0, s0, r0, r1, r2, z0, z1, z2⟩ := hdf.facts; have HD3 := Lib.hid hdf; clear hdf hbb)
    | (go_at_call 20; refine (HRf.out _ _ _ HD3.out).mono ?_; clear c0 c1 c2 c3 c4 h0 s0 r0 r1 r2 z0 z1 z2; rintro e w4 ⟨rfl, hdf⟩; obtain ⟨c0, c1, c2, c3, c4, h0, s0, r0, r1, r2, z0, z1, z2⟩ := hdf.facts; have HD4 := Lib.hid hdf; clear hdf))
  obtain ⟨hbw, hpo⟩ := HD4.out.fin (.int .i64 3) (.int .i64 0) (.slice none 0 0)
  exact bodyPost_ret (v := .tuple #[.agg #[.int .i64 3, .int .i64 0, (.slice none 0 0)], .bool true, (.slice A1 b.length cp1)]) (by simp [results, Try.results7, go_sem, *]) rfl ⟨_, _, rfl, .inl ⟨rfl, rfl⟩, hpo _ _ _ HD4.out.own, hbw⟩

set_option maxHeartbeats 4000000 in
theorem do_append_yes (k : Int) (s : ByteArray) (a : Int) (d : List UInt8) (n : Int) (dv bv : Value) (b : List UInt8) (w : World) (hd : ReadsB w dv d) (hb : ReadsB w bv b) (hbl : b.length ≤ 4096) (hs : s.size ≤ 140737488351232) (hm : MayC ⟨k, s, a, d, n⟩) (hk1 : (k == 1) = false) (hk2 : (k == 2) = false) (hk3 : (k == 3) = true) (o : List UInt8) (hw : writtenR b b.length d = some o) :
    Calls Try.prog 7 #[.agg #[.int .i64 k, .string s, .int .i64 a, dv, .int .i64 n], .bool true, bv] w (DoPost ⟨0, 0, [], true, o⟩ w) := by
  have HCk : Hid (∀ W sv sb, DF w ⟨k, s, a, d, n⟩ dv true sv b w.heap.size (w.heap.size + 1) (w.heap.size + 2) sb W → Calls Try.prog 15 #[callV ⟨k, s, a, d, n⟩ dv] W fun e w' => e = .returned (.int .i64 0) ∧ DF w ⟨k, s, a, d, n⟩ dv true sv b w.heap.size (w.heap.size + 1) (w.heap.size + 2) sb w') := fun W sv sb h => by
    have := df_check h hd hs
    rwa [mayN_yes hm] at this
  have HCl := Lib.hid (df_clone ⟨k, s, a, d, n⟩ dv true bv b w hb (by omega))
  have hdl : d.length ≤ 4096 := hm.2.2.2.2.2.1
  have HWr : Hid (∀ W, Below w.heap.size w W → Calls Try.prog 21 #[bv, .int .i64 (b.length : Nat), dv] W fun e w' => ∃ v', e = .returned (.tuple #[v', .bool true]) ∧ OwnB W.heap.size v' o w' ∧ Below W.heap.size W w') := fun W hW => by
    have := written_any bv dv b d b.length W (hb.below hW) (hd.below hW) hbl hdl (by omega)
    rw [hw] at this
    exact this
  obtain ⟨Ad, cd, rfl⟩ := hd.slice
  obtain ⟨Ab, cb, rfl⟩ := hb.slice
  clear hd hb hbl hs hm hw hdl
  go_enter Try.func7, Try.ntmps7
  go_wp2_with (first
    | (go_at_call 19; (with_reducible refine HCl.out.mono ?_); rintro e w1 ⟨A1, cp1, rfl, hdf⟩; obtain ⟨c0, c1, c2, c3, c4, h0, s0, r0, r1, r2, z0, z1, z2⟩ := hdf.facts; have HD1 := Lib.hid hdf; clear hdf)
    | (go_at_call 15; refine (HCk.out _ _ _ HD1.out).mono ?_; clear c0 c1 c2 c3 c4 h0 s0 r0 r1 r2 z0 z1 z2; rintro e w2 ⟨rfl, hdf⟩; obtain ⟨c0, c1, c2, c3, c4, h0, s0, r0, r1, r2, z0, z1, z2⟩ := hdf.facts; have HD2 := Lib.hid hdf; clear hdf)
    | (go_at_call 21; refine (HWr.out _ HD2.out.below).mono ?_; clear c0 c1 c2 c3 c4 h0 s0 r0 r1 r2 z0 z1 z2; rintro e w3 ⟨v3, rfl, ho, hbb⟩; have hdf := HD2.out.go hbb; obtain ⟨c0, c1, c2, c3, c4, h0, s0, r0, r1, r2, z0, z1, z2⟩ := hdf.facts; have HD3 := Lib.hid hdf; have HO := Lib.hid ho; clear ho; clear hdf hbb))
  obtain ⟨hbw, hpo⟩ := HD3.out.fin (.int .i64 0) (.int .i64 0) (.slice none 0 0)
  exact bodyPost_ret (v := .tuple #[.agg #[.int .i64 0, .int .i64 0, (.slice none 0 0)], .bool true, v3]) (by simp [results, Try.results7, go_sem, *]) rfl ⟨_, _, rfl, .inl ⟨rfl, rfl⟩, hpo _ _ _ (HO.out.mono HD2.out.below.size), hbw⟩

set_option maxHeartbeats 4000000 in
theorem do_trunc_no (k : Int) (s : ByteArray) (a : Int) (d : List UInt8) (n : Int) (dv bv : Value) (b : List UInt8) (w : World) (hd : ReadsB w dv d) (hb : ReadsB w bv b) (hbl : b.length ≤ 4096) (hs : s.size ≤ 140737488351232) (hm : MayC ⟨k, s, a, d, n⟩) (hk1 : (k == 1) = false) (hk2 : (k == 2) = false) (hk3 : (k == 3) = false) (hk4 : (k == 4) = true) (hn : 4096 < n) :
    Calls Try.prog 7 #[.agg #[.int .i64 k, .string s, .int .i64 a, dv, .int .i64 n], .bool true, bv] w (DoPost ⟨3, 0, [], true, b⟩ w) := by
  have HCk : Hid (∀ W sv sb, DF w ⟨k, s, a, d, n⟩ dv true sv b w.heap.size (w.heap.size + 1) (w.heap.size + 2) sb W → Calls Try.prog 15 #[callV ⟨k, s, a, d, n⟩ dv] W fun e w' => e = .returned (.int .i64 0) ∧ DF w ⟨k, s, a, d, n⟩ dv true sv b w.heap.size (w.heap.size + 1) (w.heap.size + 2) sb w') := fun W sv sb h => by
    have := df_check h hd hs
    rwa [mayN_yes hm] at this
  have HRf : Hid (∀ W sv sb, DF w ⟨k, s, a, d, n⟩ dv true sv b w.heap.size (w.heap.size + 1) (w.heap.size + 2) sb W → _) := fun W sv sb h => df_refused h 3
  have HCl := Lib.hid (df_clone ⟨k, s, a, d, n⟩ dv true bv b w hb (by omega))
  obtain ⟨Ad, cd, rfl⟩ := hd.slice
  obtain ⟨Ab, cb, rfl⟩ := hb.slice
  clear hd hb hbl hs hm
  go_enter Try.func7, Try.ntmps7
  go_wp2_with (first
    | (go_at_call 19; (with_reducible refine HCl.out.mono ?_); rintro e w1 ⟨A1, cp1, rfl, hdf⟩; obtain ⟨c0, c1, c2, c3, c4, h0, s0, r0, r1, r2, z0, z1, z2⟩ := hdf.facts; have HD1 := Lib.hid hdf; clear hdf)
    | (go_at_call 15; refine (HCk.out _ _ _ HD1.out).mono ?_; clear c0 c1 c2 c3 c4 h0 s0 r0 r1 r2 z0 z1 z2; rintro e w2 ⟨rfl, hdf⟩; obtain ⟨c0, c1, c2, c3, c4, h0, s0, r0, r1, r2, z0, z1, z2⟩ := hdf.facts; have HD2 := Lib.hid hdf; clear hdf)
    | (go_at_call 20; refine (HRf.out _ _ _ HD2.out).mono ?_; clear c0 c1 c2 c3 c4 h0 s0 r0 r1 r2 z0 z1 z2; rintro e w3 ⟨rfl, hdf⟩; obtain ⟨c0, c1, c2, c3, c4, h0, s0, r0, r1, r2, z0, z1, z2⟩ := hdf.facts; have HD3 := Lib.hid hdf; clear hdf))
  obtain ⟨hbw, hpo⟩ := HD3.out.fin (.int .i64 3) (.int .i64 0) (.slice none 0 0)
  exact bodyPost_ret (v := .tuple #[.agg #[.int .i64 3, .int .i64 0, (.slice none 0 0)], .bool true, (.slice A1 b.length cp1)]) (by simp [results, Try.results7, go_sem, *]) rfl ⟨_, _, rfl, .inl ⟨rfl, rfl⟩, hpo _ _ _ HD3.out.own, hbw⟩

set_option maxHeartbeats 4000000 in
theorem do_trunc_yes (k : Int) (s : ByteArray) (a : Int) (d : List UInt8) (n : Int) (dv bv : Value) (b : List UInt8) (w : World) (hd : ReadsB w dv d) (hb : ReadsB w bv b) (hbl : b.length ≤ 4096) (hs : s.size ≤ 140737488351232) (hm : MayC ⟨k, s, a, d, n⟩) (hk1 : (k == 1) = false) (hk2 : (k == 2) = false) (hk3 : (k == 3) = false) (hk4 : (k == 4) = true) (q : Nat) (hq : n = q) (hn : q ≤ 4096) :
    Calls Try.prog 7 #[.agg #[.int .i64 k, .string s, .int .i64 a, dv, .int .i64 n], .bool true, bv] w (DoPost ⟨0, 0, [], true, sizedL b q⟩ w) := by
  have HCk : Hid (∀ W sv sb, DF w ⟨k, s, a, d, n⟩ dv true sv b w.heap.size (w.heap.size + 1) (w.heap.size + 2) sb W → Calls Try.prog 15 #[callV ⟨k, s, a, d, n⟩ dv] W fun e w' => e = .returned (.int .i64 0) ∧ DF w ⟨k, s, a, d, n⟩ dv true sv b w.heap.size (w.heap.size + 1) (w.heap.size + 2) sb w') := fun W sv sb h => by
    have := df_check h hd hs
    rwa [mayN_yes hm] at this
  have HCl := Lib.hid (df_clone ⟨k, s, a, d, n⟩ dv true bv b w hb (by omega))
  have HSz : Hid (∀ W, Below w.heap.size w W → Calls Try.prog 22 #[bv, .int .i64 q] W (SizedPost (sizedL b q) W)) := fun W hW => sized_any bv b q W (hb.below hW) (by omega) (by omega)
  have hnl : ¬ (4096 : Int) < (q : Int) := by omega
  subst hq
  obtain ⟨Ad, cd, rfl⟩ := hd.slice
  obtain ⟨Ab, cb, rfl⟩ := hb.slice
  clear hd hb hbl hs hm hn
  go_enter Try.func7, Try.ntmps7
  go_wp2_with (first
    | (go_at_call 19; (with_reducible refine HCl.out.mono ?_); rintro e w1 ⟨A1, cp1, rfl, hdf⟩; obtain ⟨c0, c1, c2, c3, c4, h0, s0, r0, r1, r2, z0, z1, z2⟩ := hdf.facts; have HD1 := Lib.hid hdf; clear hdf)
    | (go_at_call 15; refine (HCk.out _ _ _ HD1.out).mono ?_; clear c0 c1 c2 c3 c4 h0 s0 r0 r1 r2 z0 z1 z2; rintro e w2 ⟨rfl, hdf⟩; obtain ⟨c0, c1, c2, c3, c4, h0, s0, r0, r1, r2, z0, z1, z2⟩ := hdf.facts; have HD2 := Lib.hid hdf; clear hdf)
    | (go_at_call 22; refine (HSz.out _ HD2.out.below).mono ?_; clear c0 c1 c2 c3 c4 h0 s0 r0 r1 r2 z0 z1 z2; rintro e w3 ⟨v3, rfl, ho, hbb⟩; have hdf := HD2.out.go hbb; obtain ⟨c0, c1, c2, c3, c4, h0, s0, r0, r1, r2, z0, z1, z2⟩ := hdf.facts; have HD3 := Lib.hid hdf; have HO := Lib.hid ho; clear ho; clear hdf hbb))
  obtain ⟨hbw, hpo⟩ := HD3.out.fin (.int .i64 0) (.int .i64 0) (.slice none 0 0)
  exact bodyPost_ret (v := .tuple #[.agg #[.int .i64 0, .int .i64 0, (.slice none 0 0)], .bool true, v3]) (by simp [results, Try.results7, go_sem, *]) rfl ⟨_, _, rfl, .inl ⟨rfl, rfl⟩, hpo _ _ _ (HO.out.mono HD2.out.below.size), hbw⟩

set_option maxHeartbeats 4000000 in
theorem do_else (k : Int) (s : ByteArray) (a : Int) (d : List UInt8) (n : Int) (dv bv : Value) (b : List UInt8) (w : World) (hd : ReadsB w dv d) (hb : ReadsB w bv b) (hbl : b.length ≤ 4096) (hs : s.size ≤ 140737488351232) (hm : MayC ⟨k, s, a, d, n⟩) (hk1 : (k == 1) = false) (hk2 : (k == 2) = false) (hk3 : (k == 3) = false) (hk4 : (k == 4) = false) (hk5 : (k == 5) = false) (hk6 : (k == 6) = false) :
    Calls Try.prog 7 #[.agg #[.int .i64 k, .string s, .int .i64 a, dv, .int .i64 n], .bool true, bv] w (DoPost ⟨0, 0, [], false, []⟩ w) := by
  have HCk : Hid (∀ W sv sb, DF w ⟨k, s, a, d, n⟩ dv true sv b w.heap.size (w.heap.size + 1) (w.heap.size + 2) sb W → Calls Try.prog 15 #[callV ⟨k, s, a, d, n⟩ dv] W fun e w' => e = .returned (.int .i64 0) ∧ DF w ⟨k, s, a, d, n⟩ dv true sv b w.heap.size (w.heap.size + 1) (w.heap.size + 2) sb w') := fun W sv sb h => by
    have := df_check h hd hs
    rwa [mayN_yes hm] at this
  have HCl := Lib.hid (df_clone ⟨k, s, a, d, n⟩ dv true bv b w hb (by omega))
  obtain ⟨Ad, cd, rfl⟩ := hd.slice
  obtain ⟨Ab, cb, rfl⟩ := hb.slice
  clear hd hb hbl hs hm
  go_enter Try.func7, Try.ntmps7
  go_wp2_with (first
    | (go_at_call 19; (with_reducible refine HCl.out.mono ?_); rintro e w1 ⟨A1, cp1, rfl, hdf⟩; obtain ⟨c0, c1, c2, c3, c4, h0, s0, r0, r1, r2, z0, z1, z2⟩ := hdf.facts; have HD1 := Lib.hid hdf; clear hdf)
    | (go_at_call 15; refine (HCk.out _ _ _ HD1.out).mono ?_; clear c0 c1 c2 c3 c4 h0 s0 r0 r1 r2 z0 z1 z2; rintro e w2 ⟨rfl, hdf⟩; obtain ⟨c0, c1, c2, c3, c4, h0, s0, r0, r1, r2, z0, z1, z2⟩ := hdf.facts; have HD2 := Lib.hid hdf; clear hdf))
  obtain ⟨hbw, hpo⟩ := HD2.out.fin (.int .i64 0) (.int .i64 0) (.slice none 0 0)
  exact bodyPost_ret (v := .tuple #[.agg #[.int .i64 0, .int .i64 0, (.slice none 0 0)], .bool false, (.slice none 0 0)]) (by simp [results, Try.results7, go_sem, *]) rfl ⟨_, _, rfl, .inl ⟨rfl, rfl⟩, .inl ⟨rfl, rfl⟩, hbw⟩

end Go.Proofs.Ytbbbdhpihcbmmaa
