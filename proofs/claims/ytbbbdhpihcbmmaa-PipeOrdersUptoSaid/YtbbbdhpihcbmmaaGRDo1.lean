/- The cases of the reference's Do. The cases of the reference's Do. The cases of the reference's Do. The cases of the reference's Do. -/
import Derived.Test.YtbbbdhpihcbmmaaPRDo1
namespace Go.Proofs.Ytbbbdhpihcbmmaa
open Go.RowKit Own

set_option maxHeartbeats 4000000 in
theorem rdo_write_no (k : Int) (s : ByteArray) (a : Int) (d : List UInt8) (n : Int) (dv bv : Value) (b : List UInt8) (w : World) (hd : ReadsB w dv d) (hb : ReadsB w bv b) (hbl : b.length ≤ 4096) (hs : s.size ≤ 1048576) (hm : MayC ⟨k, s, a, d, n⟩) (hk1 : (k == 1) = false) (hk2 : (k == 2) = true) (q : Nat) (hq : a = q) (ha : q ≤ 9223372036854775807) (hw : writtenR b q d = none) :
    Calls Try.prog 11 #[.agg #[.int .i64 k, .string s, .int .i64 a, dv, .int .i64 n], .agg #[.bool true, bv]] w (RDoPost ⟨3, 0, [], true, b⟩ w) := by
  have HMy : Hid (∀ W, RF w ⟨k, s, a, d, n⟩ dv true bv w.heap.size (w.heap.size + 1) (w.heap.size + 1 + 1) (w.heap.size + 1 + 1 + 1) W → Calls Try.prog 10 #[.agg #[.int .i64 k, .string s, .int .i64 a, dv, .int .i64 n]] W fun e w' => e = .returned (.bool true) ∧ RF w ⟨k, s, a, d, n⟩ dv true bv w.heap.size (w.heap.size + 1) (w.heap.size + 1 + 1) (w.heap.size + 1 + 1 + 1) w') := fun W h => by
    have := rf_may h hd hs
    rwa [show mayB ⟨k, s, a, d, n⟩ = true from decide_eq_true hm] at this
  have HS := Lib.hid (rf_start ⟨k, s, a, d, n⟩ dv true bv w)
  simp only [] at HS
  have HBv := Lib.hid hb
  have hdl : d.length ≤ 4096 := hm.2.2.2.2.2.1
  have HWr : Hid (∀ W, Below w.heap.size w W → Calls Try.prog 24 #[bv, .int .i64 (q : Nat), dv] W fun e w' => e = .returned (.tuple #[.slice none 0 0, .bool false]) ∧ Below W.heap.size W w') := fun W hW => by
    have := rput_any bv dv b d q W (hb.below hW) (hd.below hW) hbl hdl (by omega)
    rw [hw] at this
    exact this
  subst hq
  obtain ⟨Ad, cd, rfl⟩ := hd.slice
  obtain ⟨Ab, cb, rfl⟩ := hb.slice
  clear hd hb hbl hs hm hw hdl ha
  go_enter Try.func11, Try.ntmps11
  go_wp2_with (first
    | (go_at_call 10; refine (HMy.out _ HS.out).mono ?_; rintro e w2 ⟨rfl, hrf⟩; obtain ⟨c0, c1, c2, c3, c4, o0, o1, r0, r1, r2, p0, p1, z0, z1, z2, y0, y1⟩ := hrf.facts; have HD := Lib.hid hrf; clear hrf)
    | (go_at_call 24; refine (HWr.out _ HD.out.below).mono ?_; clear c0 c1 c2 c3 c4 o0 o1 r0 r1 r2 p0 p1 z0 z1 z2 y0 y1; rintro e w3 ⟨rfl, hbb⟩; have hdf := HD.out.go hbb; obtain ⟨c0, c1, c2, c3, c4, o0, o1, r0, r1, r2, p0, p1, z0, z1, z2, y0, y1⟩ := hdf.facts; have HD3 := Lib.hid hdf; clear hdf hbb))
  go_region
  all_goals
    go_wp2_with fail
    obtain ⟨hbw, hpo⟩ := (HD3.out.go bel_drew1).fin (.int .i64 3) (.int .i64 0) (.slice none 0 0) (.bool true) (.slice Ab b.length cb)
    exact bodyPost_ret (v := .tuple #[.agg #[.int .i64 3, .int .i64 0, (.slice none 0 0)], .agg #[.bool true, (.slice Ab b.length cb)]]) (by simp [results, Try.results11, go_sem, *]) rfl ⟨_, _, rfl, .inl ⟨rfl, rfl⟩, HBv.out.below hbw, hbw⟩


end Go.Proofs.Ytbbbdhpihcbmmaa
namespace Go.Proofs.Ytbbbdhpihcbmmaa
open Go.RowKit Own

set_option maxHeartbeats 4000000 in
theorem rdo_write_yes (k : Int) (s : ByteArray) (a : Int) (d : List UInt8) (n : Int) (dv bv : Value) (b : List UInt8) (w : World) (hd : ReadsB w dv d) (hb : ReadsB w bv b) (hbl : b.length ≤ 4096) (hs : s.size ≤ 1048576) (hm : MayC ⟨k, s, a, d, n⟩) (hk1 : (k == 1) = false) (hk2 : (k == 2) = true) (o : List UInt8) (q : Nat) (hq : a = q) (ha : q ≤ 9223372036854775807) (hw : writtenR b q d = some o) :
    Calls Try.prog 11 #[.agg #[.int .i64 k, .string s, .int .i64 a, dv, .int .i64 n], .agg #[.bool true, bv]] w (RDoPost ⟨0, 0, [], true, o⟩ w) := by
  have HMy : Hid (∀ W, RF w ⟨k, s, a, d, n⟩ dv true bv w.heap.size (w.heap.size + 1) (w.heap.size + 1 + 1) (w.heap.size + 1 + 1 + 1) W → Calls Try.prog 10 #[.agg #[.int .i64 k, .string s, .int .i64 a, dv, .int .i64 n]] W fun e w' => e = .returned (.bool true) ∧ RF w ⟨k, s, a, d, n⟩ dv true bv w.heap.size (w.heap.size + 1) (w.heap.size + 1 + 1) (w.heap.size + 1 + 1 + 1) w') := fun W h => by
    have := rf_may h hd hs
    rwa [show mayB ⟨k, s, a, d, n⟩ = true from decide_eq_true hm] at this
  have HS := Lib.hid (rf_start ⟨k, s, a, d, n⟩ dv true bv w)
  simp only [] at HS
  have HBv := Lib.hid hb
  have hdl : d.length ≤ 4096 := hm.2.2.2.2.2.1
  have HWr : Hid (∀ W, Below w.heap.size w W → Calls Try.prog 24 #[bv, .int .i64 (q : Nat), dv] W fun e w' => ∃ v', e = .returned (.tuple #[v', .bool true]) ∧ OwnB W.heap.size v' o w' ∧ Below W.heap.size W w') := fun W hW => by
    have := rput_any bv dv b d q W (hb.below hW) (hd.below hW) hbl hdl (by omega)
    rw [hw] at this
    exact this
  subst hq
  obtain ⟨Ad, cd, rfl⟩ := hd.slice
  obtain ⟨Ab, cb, rfl⟩ := hb.slice
  clear hd hb hbl hs hm hw hdl ha
  go_enter Try.func11, Try.ntmps11
  go_wp2_with (first
    | (go_at_call 10; refine (HMy.out _ HS.out).mono ?_; rintro e w2 ⟨rfl, hrf⟩; obtain ⟨c0, c1, c2, c3, c4, o0, o1, r0, r1, r2, p0, p1, z0, z1, z2, y0, y1⟩ := hrf.facts; have HD := Lib.hid hrf; clear hrf)
    | (go_at_call 24; refine (HWr.out _ HD.out.below).mono ?_; clear c0 c1 c2 c3 c4 o0 o1 r0 r1 r2 p0 p1 z0 z1 z2 y0 y1; rintro e w3 ⟨v3, rfl, ho, hbb⟩; obtain ⟨Av3, nv3, cv3, rfl⟩ := ho.form3; have hdf := HD.out.go hbb; obtain ⟨c0, c1, c2, c3, c4, o0, o1, r0, r1, r2, p0, p1, z0, z1, z2, y0, y1⟩ := hdf.facts; have HD3 := Lib.hid hdf; have HO := Lib.hid ho; clear ho; clear hdf hbb))
  obtain ⟨hbw, hpo⟩ := (HD3.out).fin (.int .i64 0) (.int .i64 0) (.slice none 0 0) (.bool true) (.slice Av3 nv3 cv3)
  exact bodyPost_ret (v := .tuple #[.agg #[.int .i64 0, .int .i64 0, (.slice none 0 0)], .agg #[.bool true, (.slice Av3 nv3 cv3)]]) (by simp [results, Try.results11, go_sem, *]) rfl ⟨_, _, rfl, .inl ⟨rfl, rfl⟩, (hpo _ _ _ HO.out).reads, hbw⟩


end Go.Proofs.Ytbbbdhpihcbmmaa
namespace Go.Proofs.Ytbbbdhpihcbmmaa
open Go.RowKit Own

set_option maxHeartbeats 4000000 in
theorem rdo_append_no (k : Int) (s : ByteArray) (a : Int) (d : List UInt8) (n : Int) (dv bv : Value) (b : List UInt8) (w : World) (hd : ReadsB w dv d) (hb : ReadsB w bv b) (hbl : b.length ≤ 4096) (hs : s.size ≤ 1048576) (hm : MayC ⟨k, s, a, d, n⟩) (hk1 : (k == 1) = false) (hk2 : (k == 2) = false) (hk3 : (k == 3) = true) (hw : writtenR b b.length d = none) :
    Calls Try.prog 11 #[.agg #[.int .i64 k, .string s, .int .i64 a, dv, .int .i64 n], .agg #[.bool true, bv]] w (RDoPost ⟨3, 0, [], true, b⟩ w) := by
  have HMy : Hid (∀ W, RF w ⟨k, s, a, d, n⟩ dv true bv w.heap.size (w.heap.size + 1) (w.heap.size + 1 + 1) (w.heap.size + 1 + 1 + 1) W → Calls Try.prog 10 #[.agg #[.int .i64 k, .string s, .int .i64 a, dv, .int .i64 n]] W fun e w' => e = .returned (.bool true) ∧ RF w ⟨k, s, a, d, n⟩ dv true bv w.heap.size (w.heap.size + 1) (w.heap.size + 1 + 1) (w.heap.size + 1 + 1 + 1) w') := fun W h => by
    have := rf_may h hd hs
    rwa [show mayB ⟨k, s, a, d, n⟩ = true from decide_eq_true hm] at this
  have HS := Lib.hid (rf_start ⟨k, s, a, d, n⟩ dv true bv w)
  simp only [] at HS
  have HBv := Lib.hid hb
  have hdl : d.length ≤ 4096 := hm.2.2.2.2.2.1
  have HWr : Hid (∀ W, Below w.heap.size w W → Calls Try.prog 24 #[bv, .int .i64 (b.length : Nat), dv] W fun e w' => e = .returned (.tuple #[.slice none 0 0, .bool false]) ∧ Below W.heap.size W w') := fun W hW => by
    have := rput_any bv dv b d b.length W (hb.below hW) (hd.below hW) hbl hdl (by omega)
    rw [hw] at this
    exact this
  obtain ⟨Ad, cd, rfl⟩ := hd.slice
  obtain ⟨Ab, cb, rfl⟩ := hb.slice
  clear hd hb hbl hs hm hw hdl
  go_enter Try.func11, Try.ntmps11
  go_wp2_with (first
    | (go_at_call 10; refine (HMy.out _ HS.out).mono ?_; rintro e w2 ⟨rfl, hrf⟩; obtain ⟨c0, c1, c2, c3, c4, o0, o1, r0, r1, r2, p0, p1, z0, z1, z2, y0, y1⟩ := hrf.facts; have HD := Lib.hid hrf; clear hrf)
    | (go_at_call 24; refine (HWr.out _ HD.out.below).mono ?_; clear c0 c1 c2 c3 c4 o0 o1 r0 r1 r2 p0 p1 z0 z1 z2 y0 y1; rintro e w3 ⟨rfl, hbb⟩; have hdf := HD.out.go hbb; obtain ⟨c0, c1, c2, c3, c4, o0, o1, r0, r1, r2, p0, p1, z0, z1, z2, y0, y1⟩ := hdf.facts; have HD3 := Lib.hid hdf; clear hdf hbb))
  go_region
  all_goals
    go_wp2_with fail
    obtain ⟨hbw, hpo⟩ := (HD3.out.go bel_drew1).fin (.int .i64 3) (.int .i64 0) (.slice none 0 0) (.bool true) (.slice Ab b.length cb)
    exact bodyPost_ret (v := .tuple #[.agg #[.int .i64 3, .int .i64 0, (.slice none 0 0)], .agg #[.bool true, (.slice Ab b.length cb)]]) (by simp [results, Try.results11, go_sem, *]) rfl ⟨_, _, rfl, .inl ⟨rfl, rfl⟩, HBv.out.below hbw, hbw⟩


end Go.Proofs.Ytbbbdhpihcbmmaa
namespace Go.Proofs.Ytbbbdhpihcbmmaa
open Go.RowKit Own

set_option maxHeartbeats 4000000 in
theorem rdo_append_yes (k : Int) (s : ByteArray) (a : Int) (d : List UInt8) (n : Int) (dv bv : Value) (b : List UInt8) (w : World) (hd : ReadsB w dv d) (hb : ReadsB w bv b) (hbl : b.length ≤ 4096) (hs : s.size ≤ 1048576) (hm : MayC ⟨k, s, a, d, n⟩) (hk1 : (k == 1) = false) (hk2 : (k == 2) = false) (hk3 : (k == 3) = true) (o : List UInt8) (hw : writtenR b b.length d = some o) :
    Calls Try.prog 11 #[.agg #[.int .i64 k, .string s, .int .i64 a, dv, .int .i64 n], .agg #[.bool true, bv]] w (RDoPost ⟨0, 0, [], true, o⟩ w) := by
  have HMy : Hid (∀ W, RF w ⟨k, s, a, d, n⟩ dv true bv w.heap.size (w.heap.size + 1) (w.heap.size + 1 + 1) (w.heap.size + 1 + 1 + 1) W → Calls Try.prog 10 #[.agg #[.int .i64 k, .string s, .int .i64 a, dv, .int .i64 n]] W fun e w' => e = .returned (.bool true) ∧ RF w ⟨k, s, a, d, n⟩ dv true bv w.heap.size (w.heap.size + 1) (w.heap.size + 1 + 1) (w.heap.size + 1 + 1 + 1) w') := fun W h => by
    have := rf_may h hd hs
    rwa [show mayB ⟨k, s, a, d, n⟩ = true from decide_eq_true hm] at this
  have HS := Lib.hid (rf_start ⟨k, s, a, d, n⟩ dv true bv w)
  simp only [] at HS
  have HBv := Lib.hid hb
  have hdl : d.length ≤ 4096 := hm.2.2.2.2.2.1
  have HWr : Hid (∀ W, Below w.heap.size w W → Calls Try.prog 24 #[bv, .int .i64 (b.length : Nat), dv] W fun e w' => ∃ v', e = .returned (.tuple #[v', .bool true]) ∧ OwnB W.heap.size v' o w' ∧ Below W.heap.size W w') := fun W hW => by
    have := rput_any bv dv b d b.length W (hb.below hW) (hd.below hW) hbl hdl (by omega)
    rw [hw] at this
    exact this
  obtain ⟨Ad, cd, rfl⟩ := hd.slice
  obtain ⟨Ab, cb, rfl⟩ := hb.slice
  clear hd hb hbl hs hm hw hdl
  go_enter Try.func11, Try.ntmps11
  go_wp2_with (first
    | (go_at_call 10; refine (HMy.out _ HS.out).mono ?_; rintro e w2 ⟨rfl, hrf⟩; obtain ⟨c0, c1, c2, c3, c4, o0, o1, r0, r1, r2, p0, p1, z0, z1, z2, y0, y1⟩ := hrf.facts; have HD := Lib.hid hrf; clear hrf)
    | (go_at_call 24; refine (HWr.out _ HD.out.below).mono ?_; clear c0 c1 c2 c3 c4 o0 o1 r0 r1 r2 p0 p1 z0 z1 z2 y0 y1; rintro e w3 ⟨v3, rfl, ho, hbb⟩; obtain ⟨Av3, nv3, cv3, rfl⟩ := ho.form3; have hdf := HD.out.go hbb; obtain ⟨c0, c1, c2, c3, c4, o0, o1, r0, r1, r2, p0, p1, z0, z1, z2, y0, y1⟩ := hdf.facts; have HD3 := Lib.hid hdf; have HO := Lib.hid ho; clear ho; clear hdf hbb))
  obtain ⟨hbw, hpo⟩ := (HD3.out).fin (.int .i64 0) (.int .i64 0) (.slice none 0 0) (.bool true) (.slice Av3 nv3 cv3)
  exact bodyPost_ret (v := .tuple #[.agg #[.int .i64 0, .int .i64 0, (.slice none 0 0)], .agg #[.bool true, (.slice Av3 nv3 cv3)]]) (by simp [results, Try.results11, go_sem, *]) rfl ⟨_, _, rfl, .inl ⟨rfl, rfl⟩, (hpo _ _ _ HO.out).reads, hbw⟩


end Go.Proofs.Ytbbbdhpihcbmmaa
