/- The cases of the reference's Do. -/
import Derived.Test.YtbbbdhpihcbmmaaPRDo0
namespace Go.Proofs.Ytbbbdhpihcbmmaa
open Go.RowKit Own

theorem OwnB.form3 {base : Nat} {v : Value} {l : List UInt8} {w : World} (h : OwnB base v l w) : ∃ A n c, v = .slice A n c := by
  rcases h with ⟨rfl, rfl⟩ | ⟨g, c, cur, rfl, _⟩
  · exact ⟨_, _, _, rfl⟩
  · exact ⟨_, _, _, rfl⟩
theorem bel_drew1 {w : World} : Below w.heap.size w w.drew := ⟨rfl, rfl, rfl, Nat.le_refl _, fun _ _ => rfl⟩
set_option maxHeartbeats 4000000 in
theorem rdo_none_bad (k : Int) (s : ByteArray) (a : Int) (d : List UInt8) (n : Int) (dv bv : Value) (w : World) (hd : ReadsB w dv d) (hbv : ∃ A m cc, bv = .slice A m cc) (hs : s.size ≤ 1048576) (hm : ¬ MayC ⟨k, s, a, d, n⟩) :
    Calls Try.prog 11 #[.agg #[.int .i64 k, .string s, .int .i64 a, dv, .int .i64 n], .agg #[.bool false, bv]] w (RDoPost ⟨1, 0, [], false, []⟩ w) := by
  have HMy : Hid (∀ W, RF w ⟨k, s, a, d, n⟩ dv false (.slice none 0 0) w.heap.size (w.heap.size + 1) (w.heap.size + 1 + 1) (w.heap.size + 1 + 1 + 1) W → Calls Try.prog 10 #[.agg #[.int .i64 k, .string s, .int .i64 a, dv, .int .i64 n]] W fun e w' => e = .returned (.bool false) ∧ RF w ⟨k, s, a, d, n⟩ dv false (.slice none 0 0) w.heap.size (w.heap.size + 1) (w.heap.size + 1 + 1) (w.heap.size + 1 + 1 + 1) w') := fun W h => by
    have := rf_may h hd hs
    rwa [show mayB ⟨k, s, a, d, n⟩ = false from decide_eq_false hm] at this
  have HS := Lib.hid (rf_start ⟨k, s, a, d, n⟩ dv false (.slice none 0 0) w)
  simp only [] at HS
  obtain ⟨Ad, cd, rfl⟩ := hd.slice
  obtain ⟨Ab, mb, cb, rfl⟩ := hbv
  clear hd hs hm
  go_enter Try.func11, Try.ntmps11
  go_wp2_with (first
    | (go_at_call 10; refine (HMy.out _ HS.out).mono ?_; rintro e w2 ⟨rfl, hrf⟩; obtain ⟨c0, c1, c2, c3, c4, o0, o1, r0, r1, r2, p0, p1, z0, z1, z2, y0, y1⟩ := hrf.facts; have HD := Lib.hid hrf; clear hrf))
  go_region
  all_goals
    go_wp2_with fail
    obtain ⟨hbw, hpo⟩ := (HD.out.go bel_drew1).fin (.int .i64 1) (.int .i64 0) (.slice none 0 0) (.bool false) (.slice none 0 0)
    exact bodyPost_ret (v := .tuple #[.agg #[.int .i64 1, .int .i64 0, (.slice none 0 0)], .agg #[.bool false, (.slice none 0 0)]]) (by simp [results, Try.results11, go_sem, *]) rfl ⟨_, _, rfl, .inl ⟨rfl, rfl⟩, .inl ⟨rfl, rfl⟩, hbw⟩

set_option maxHeartbeats 4000000 in
theorem rdo_none_create (k : Int) (s : ByteArray) (a : Int) (d : List UInt8) (n : Int) (dv bv : Value) (w : World) (hd : ReadsB w dv d) (hbv : ∃ A m cc, bv = .slice A m cc) (hs : s.size ≤ 1048576) (hm : MayC ⟨k, s, a, d, n⟩) (hk1 : (k == 1) = true) :
    Calls Try.prog 11 #[.agg #[.int .i64 k, .string s, .int .i64 a, dv, .int .i64 n], .agg #[.bool false, bv]] w (RDoPost ⟨0, 0, [], true, []⟩ w) := by
  have HMy : Hid (∀ W, RF w ⟨k, s, a, d, n⟩ dv false (.slice none 0 0) w.heap.size (w.heap.size + 1) (w.heap.size + 1 + 1) (w.heap.size + 1 + 1 + 1) W → Calls Try.prog 10 #[.agg #[.int .i64 k, .string s, .int .i64 a, dv, .int .i64 n]] W fun e w' => e = .returned (.bool true) ∧ RF w ⟨k, s, a, d, n⟩ dv false (.slice none 0 0) w.heap.size (w.heap.size + 1) (w.heap.size + 1 + 1) (w.heap.size + 1 + 1 + 1) w') := fun W h => by
    have := rf_may h hd hs
    rwa [show mayB ⟨k, s, a, d, n⟩ = true from decide_eq_true hm] at this
  have HS := Lib.hid (rf_start ⟨k, s, a, d, n⟩ dv false (.slice none 0 0) w)
  simp only [] at HS
  obtain ⟨Ad, cd, rfl⟩ := hd.slice
  obtain ⟨Ab, mb, cb, rfl⟩ := hbv
  clear hd hs hm
  go_enter Try.func11, Try.ntmps11
  go_wp2_with (first
    | (go_at_call 10; refine (HMy.out _ HS.out).mono ?_; rintro e w2 ⟨rfl, hrf⟩; obtain ⟨c0, c1, c2, c3, c4, o0, o1, r0, r1, r2, p0, p1, z0, z1, z2, y0, y1⟩ := hrf.facts; have HD := Lib.hid hrf; clear hrf))
  obtain ⟨hbw, hpo⟩ := (HD.out).fin (.int .i64 0) (.int .i64 0) (.slice none 0 0) (.bool true) (.slice none 0 0)
  exact bodyPost_ret (v := .tuple #[.agg #[.int .i64 0, .int .i64 0, (.slice none 0 0)], .agg #[.bool true, (.slice none 0 0)]]) (by simp [results, Try.results11, go_sem, *]) rfl ⟨_, _, rfl, .inl ⟨rfl, rfl⟩, .inl ⟨rfl, rfl⟩, hbw⟩

set_option maxHeartbeats 4000000 in
theorem rdo_none_other (k : Int) (s : ByteArray) (a : Int) (d : List UInt8) (n : Int) (dv bv : Value) (w : World) (hd : ReadsB w dv d) (hbv : ∃ A m cc, bv = .slice A m cc) (hs : s.size ≤ 1048576) (hm : MayC ⟨k, s, a, d, n⟩) (hk1 : (k == 1) = false) :
    Calls Try.prog 11 #[.agg #[.int .i64 k, .string s, .int .i64 a, dv, .int .i64 n], .agg #[.bool false, bv]] w (RDoPost ⟨4, 0, [], false, []⟩ w) := by
  have HMy : Hid (∀ W, RF w ⟨k, s, a, d, n⟩ dv false (.slice none 0 0) w.heap.size (w.heap.size + 1) (w.heap.size + 1 + 1) (w.heap.size + 1 + 1 + 1) W → Calls Try.prog 10 #[.agg #[.int .i64 k, .string s, .int .i64 a, dv, .int .i64 n]] W fun e w' => e = .returned (.bool true) ∧ RF w ⟨k, s, a, d, n⟩ dv false (.slice none 0 0) w.heap.size (w.heap.size + 1) (w.heap.size + 1 + 1) (w.heap.size + 1 + 1 + 1) w') := fun W h => by
    have := rf_may h hd hs
    rwa [show mayB ⟨k, s, a, d, n⟩ = true from decide_eq_true hm] at this
  have HS := Lib.hid (rf_start ⟨k, s, a, d, n⟩ dv false (.slice none 0 0) w)
  simp only [] at HS
  obtain ⟨Ad, cd, rfl⟩ := hd.slice
  obtain ⟨Ab, mb, cb, rfl⟩ := hbv
  clear hd hs hm
  go_enter Try.func11, Try.ntmps11
  go_wp2_with (first
    | (go_at_call 10; refine (HMy.out _ HS.out).mono ?_; rintro e w2 ⟨rfl, hrf⟩; obtain ⟨c0, c1, c2, c3, c4, o0, o1, r0, r1, r2, p0, p1, z0, z1, z2, y0, y1⟩ := hrf.facts; have HD := Lib.hid hrf; clear hrf))
  go_region
  all_goals
    go_wp2_with fail
    obtain ⟨hbw, hpo⟩ := (HD.out.go bel_drew1).fin (.int .i64 4) (.int .i64 0) (.slice none 0 0) (.bool false) (.slice none 0 0)
    exact bodyPost_ret (v := .tuple #[.agg #[.int .i64 4, .int .i64 0, (.slice none 0 0)], .agg #[.bool false, (.slice none 0 0)]]) (by simp [results, Try.results11, go_sem, *]) rfl ⟨_, _, rfl, .inl ⟨rfl, rfl⟩, .inl ⟨rfl, rfl⟩, hbw⟩

set_option maxHeartbeats 4000000 in
theorem rdo_some_bad (k : Int) (s : ByteArray) (a : Int) (d : List UInt8) (n : Int) (dv bv : Value) (b : List UInt8) (w : World) (hd : ReadsB w dv d) (hb : ReadsB w bv b) (_hbl : b.length ≤ 4096) (hs : s.size ≤ 1048576) (hm : ¬ MayC ⟨k, s, a, d, n⟩) :
    Calls Try.prog 11 #[.agg #[.int .i64 k, .string s, .int .i64 a, dv, .int .i64 n], .agg #[.bool true, bv]] w (RDoPost ⟨1, 0, [], true, b⟩ w) := by
  have HMy : Hid (∀ W, RF w ⟨k, s, a, d, n⟩ dv true bv w.heap.size (w.heap.size + 1) (w.heap.size + 1 + 1) (w.heap.size + 1 + 1 + 1) W → Calls Try.prog 10 #[.agg #[.int .i64 k, .string s, .int .i64 a, dv, .int .i64 n]] W fun e w' => e = .returned (.bool false) ∧ RF w ⟨k, s, a, d, n⟩ dv true bv w.heap.size (w.heap.size + 1) (w.heap.size + 1 + 1) (w.heap.size + 1 + 1 + 1) w') := fun W h => by
    have := rf_may h hd hs
    rwa [show mayB ⟨k, s, a, d, n⟩ = false from decide_eq_false hm] at this
  have HS := Lib.hid (rf_start ⟨k, s, a, d, n⟩ dv true bv w)
  simp only [] at HS
  have HBv := Lib.hid hb
  obtain ⟨Ad, cd, rfl⟩ := hd.slice
  obtain ⟨Ab, cb, rfl⟩ := hb.slice
  clear hd hb _hbl hs hm
  go_enter Try.func11, Try.ntmps11
  go_wp2_with (first
    | (go_at_call 10; refine (HMy.out _ HS.out).mono ?_; rintro e w2 ⟨rfl, hrf⟩; obtain ⟨c0, c1, c2, c3, c4, o0, o1, r0, r1, r2, p0, p1, z0, z1, z2, y0, y1⟩ := hrf.facts; have HD := Lib.hid hrf; clear hrf))
  go_region
  all_goals
    go_wp2_with fail
    obtain ⟨hbw, hpo⟩ := (HD.out.go bel_drew1).fin (.int .i64 1) (.int .i64 0) (.slice none 0 0) (.bool true) (.slice Ab b.length cb)
    exact bodyPost_ret (v := .tuple #[.agg #[.int .i64 1, .int .i64 0, (.slice none 0 0)], .agg #[.bool true, (.slice Ab b.length cb)]]) (by simp [results, Try.results11, go_sem, *]) rfl ⟨_, _, rfl, .inl ⟨rfl, rfl⟩, HBv.out.below hbw, hbw⟩

set_option maxHeartbeats 4000000 in
theorem rdo_some_create (k : Int) (s : ByteArray) (a : Int) (d : List UInt8) (n : Int) (dv bv : Value) (b : List UInt8) (w : World) (hd : ReadsB w dv d) (hb : ReadsB w bv b) (_hbl : b.length ≤ 4096) (hs : s.size ≤ 1048576) (hm : MayC ⟨k, s, a, d, n⟩) (hk1 : (k == 1) = true) :
    Calls Try.prog 11 #[.agg #[.int .i64 k, .string s, .int .i64 a, dv, .int .i64 n], .agg #[.bool true, bv]] w (RDoPost ⟨6, 0, [], true, b⟩ w) := by
  have HMy : Hid (∀ W, RF w ⟨k, s, a, d, n⟩ dv true bv w.heap.size (w.heap.size + 1) (w.heap.size + 1 + 1) (w.heap.size + 1 + 1 + 1) W → Calls Try.prog 10 #[.agg #[.int .i64 k, .string s, .int .i64 a, dv, .int .i64 n]] W fun e w' => e = .returned (.bool true) ∧ RF w ⟨k, s, a, d, n⟩ dv true bv w.heap.size (w.heap.size + 1) (w.heap.size + 1 + 1) (w.heap.size + 1 + 1 + 1) w') := fun W h => by
    have := rf_may h hd hs
    rwa [show mayB ⟨k, s, a, d, n⟩ = true from decide_eq_true hm] at this
  have HS := Lib.hid (rf_start ⟨k, s, a, d, n⟩ dv true bv w)
  simp only [] at HS
  have HBv := Lib.hid hb
  obtain ⟨Ad, cd, rfl⟩ := hd.slice
  obtain ⟨Ab, cb, rfl⟩ := hb.slice
  clear hd hb _hbl hs hm
  go_enter Try.func11, Try.ntmps11
  go_wp2_with (first
    | (go_at_call 10; refine (HMy.out _ HS.out).mono ?_; rintro e w2 ⟨rfl, hrf⟩; obtain ⟨c0, c1, c2, c3, c4, o0, o1, r0, r1, r2, p0, p1, z0, z1, z2, y0, y1⟩ := hrf.facts; have HD := Lib.hid hrf; clear hrf))
  go_region
  all_goals
    go_wp2_with fail
    obtain ⟨hbw, hpo⟩ := (HD.out.go bel_drew1).fin (.int .i64 6) (.int .i64 0) (.slice none 0 0) (.bool true) (.slice Ab b.length cb)
    exact bodyPost_ret (v := .tuple #[.agg #[.int .i64 6, .int .i64 0, (.slice none 0 0)], .agg #[.bool true, (.slice Ab b.length cb)]]) (by simp [results, Try.results11, go_sem, *]) rfl ⟨_, _, rfl, .inl ⟨rfl, rfl⟩, HBv.out.below hbw, hbw⟩

set_option maxHeartbeats 4000000 in
theorem rdo_stat (k : Int) (s : ByteArray) (a : Int) (d : List UInt8) (n : Int) (dv bv : Value) (b : List UInt8) (w : World) (hd : ReadsB w dv d) (hb : ReadsB w bv b) (_hbl : b.length ≤ 4096) (hs : s.size ≤ 1048576) (hm : MayC ⟨k, s, a, d, n⟩) (hk1 : (k == 1) = false) (hk2 : (k == 2) = false) (hk3 : (k == 3) = false) (hk4 : (k == 4) = false) (hk5 : (k == 5) = false) (hk6 : (k == 6) = true) :
    Calls Try.prog 11 #[.agg #[.int .i64 k, .string s, .int .i64 a, dv, .int .i64 n], .agg #[.bool true, bv]] w (RDoPost ⟨0, b.length, [], true, b⟩ w) := by
  have HMy : Hid (∀ W, RF w ⟨k, s, a, d, n⟩ dv true bv w.heap.size (w.heap.size + 1) (w.heap.size + 1 + 1) (w.heap.size + 1 + 1 + 1) W → Calls Try.prog 10 #[.agg #[.int .i64 k, .string s, .int .i64 a, dv, .int .i64 n]] W fun e w' => e = .returned (.bool true) ∧ RF w ⟨k, s, a, d, n⟩ dv true bv w.heap.size (w.heap.size + 1) (w.heap.size + 1 + 1) (w.heap.size + 1 + 1 + 1) w') := fun W h => by
    have := rf_may h hd hs
    rwa [show mayB ⟨k, s, a, d, n⟩ = true from decide_eq_true hm] at this
  have HS := Lib.hid (rf_start ⟨k, s, a, d, n⟩ dv true bv w)
  simp only [] at HS
  have HBv := Lib.hid hb
  obtain ⟨Ad, cd, rfl⟩ := hd.slice
  obtain ⟨Ab, cb, rfl⟩ := hb.slice
  clear hd hb _hbl hs hm
  go_enter Try.func11, Try.ntmps11
  go_wp2_with (first
    | (go_at_call 10; refine (HMy.out _ HS.out).mono ?_; rintro e w2 ⟨rfl, hrf⟩; obtain ⟨c0, c1, c2, c3, c4, o0, o1, r0, r1, r2, p0, p1, z0, z1, z2, y0, y1⟩ := hrf.facts; have HD := Lib.hid hrf; clear hrf))
  go_region
  all_goals
    go_wp2_with fail
    obtain ⟨hbw, hpo⟩ := (HD.out.go bel_drew1).fin (.int .i64 0) (.int .i64 b.length) (.slice none 0 0) (.bool true) (.slice Ab b.length cb)
    exact bodyPost_ret (v := .tuple #[.agg #[.int .i64 0, .int .i64 b.length, (.slice none 0 0)], .agg #[.bool true, (.slice Ab b.length cb)]]) (by simp [results, Try.results11, go_sem, *]) rfl ⟨_, _, rfl, .inl ⟨rfl, rfl⟩, HBv.out.below hbw, hbw⟩

set_option maxHeartbeats 4000000 in
theorem rdo_else (k : Int) (s : ByteArray) (a : Int) (d : List UInt8) (n : Int) (dv bv : Value) (b : List UInt8) (w : World) (hd : ReadsB w dv d) (hb : ReadsB w bv b) (_hbl : b.length ≤ 4096) (hs : s.size ≤ 1048576) (hm : MayC ⟨k, s, a, d, n⟩) (hk1 : (k == 1) = false) (hk2 : (k == 2) = false) (hk3 : (k == 3) = false) (hk4 : (k == 4) = false) (hk5 : (k == 5) = false) (hk6 : (k == 6) = false) :
    Calls Try.prog 11 #[.agg #[.int .i64 k, .string s, .int .i64 a, dv, .int .i64 n], .agg #[.bool true, bv]] w (RDoPost ⟨0, 0, [], false, []⟩ w) := by
  have HMy : Hid (∀ W, RF w ⟨k, s, a, d, n⟩ dv true bv w.heap.size (w.heap.size + 1) (w.heap.size + 1 + 1) (w.heap.size + 1 + 1 + 1) W → Calls Try.prog 10 #[.agg #[.int .i64 k, .string s, .int .i64 a, dv, .int .i64 n]] W fun e w' => e = .returned (.bool true) ∧ RF w ⟨k, s, a, d, n⟩ dv true bv w.heap.size (w.heap.size + 1) (w.heap.size + 1 + 1) (w.heap.size + 1 + 1 + 1) w') := fun W h => by
    have := rf_may h hd hs
    rwa [show mayB ⟨k, s, a, d, n⟩ = true from decide_eq_true hm] at this
  have HS := Lib.hid (rf_start ⟨k, s, a, d, n⟩ dv true bv w)
  simp only [] at HS
  have HBv := Lib.hid hb
  obtain ⟨Ad, cd, rfl⟩ := hd.slice
  obtain ⟨Ab, cb, rfl⟩ := hb.slice
  clear hd hb _hbl hs hm
  go_enter Try.func11, Try.ntmps11
  go_wp2_with (first
    | (go_at_call 10; refine (HMy.out _ HS.out).mono ?_; rintro e w2 ⟨rfl, hrf⟩; obtain ⟨c0, c1, c2, c3, c4, o0, o1, r0, r1, r2, p0, p1, z0, z1, z2, y0, y1⟩ := hrf.facts; have HD := Lib.hid hrf; clear hrf))
  obtain ⟨hbw, hpo⟩ := (HD.out).fin (.int .i64 0) (.int .i64 0) (.slice none 0 0) (.bool false) (.slice none 0 0)
  exact bodyPost_ret (v := .tuple #[.agg #[.int .i64 0, .int .i64 0, (.slice none 0 0)], .agg #[.bool false, (.slice none 0 0)]]) (by simp [results, Try.results11, go_sem, *]) rfl ⟨_, _, rfl, .inl ⟨rfl, rfl⟩, .inl ⟨rfl, rfl⟩, hbw⟩

set_option maxHeartbeats 4000000 in
theorem rdo_trunc_no (k : Int) (s : ByteArray) (a : Int) (d : List UInt8) (n : Int) (dv bv : Value) (b : List UInt8) (w : World) (hd : ReadsB w dv d) (hb : ReadsB w bv b) (_hbl : b.length ≤ 4096) (hs : s.size ≤ 1048576) (hm : MayC ⟨k, s, a, d, n⟩) (hk1 : (k == 1) = false) (hk2 : (k == 2) = false) (hk3 : (k == 3) = false) (hk4 : (k == 4) = true) (hn : 4096 < n) :
    Calls Try.prog 11 #[.agg #[.int .i64 k, .string s, .int .i64 a, dv, .int .i64 n], .agg #[.bool true, bv]] w (RDoPost ⟨3, 0, [], true, b⟩ w) := by
  have HMy : Hid (∀ W, RF w ⟨k, s, a, d, n⟩ dv true bv w.heap.size (w.heap.size + 1) (w.heap.size + 1 + 1) (w.heap.size + 1 + 1 + 1) W → Calls Try.prog 10 #[.agg #[.int .i64 k, .string s, .int .i64 a, dv, .int .i64 n]] W fun e w' => e = .returned (.bool true) ∧ RF w ⟨k, s, a, d, n⟩ dv true bv w.heap.size (w.heap.size + 1) (w.heap.size + 1 + 1) (w.heap.size + 1 + 1 + 1) w') := fun W h => by
    have := rf_may h hd hs
    rwa [show mayB ⟨k, s, a, d, n⟩ = true from decide_eq_true hm] at this
  have HS := Lib.hid (rf_start ⟨k, s, a, d, n⟩ dv true bv w)
  simp only [] at HS
  have HBv := Lib.hid hb
  obtain ⟨Ad, cd, rfl⟩ := hd.slice
  obtain ⟨Ab, cb, rfl⟩ := hb.slice
  clear hd hb _hbl hs hm
  go_enter Try.func11, Try.ntmps11
  go_wp2_with (first
    | (go_at_call 10; refine (HMy.out _ HS.out).mono ?_; rintro e w2 ⟨rfl, hrf⟩; obtain ⟨c0, c1, c2, c3, c4, o0, o1, r0, r1, r2, p0, p1, z0, z1, z2, y0, y1⟩ := hrf.facts; have HD := Lib.hid hrf; clear hrf))
  go_region
  all_goals
    go_wp2_with fail
    obtain ⟨hbw, hpo⟩ := (HD.out.go bel_drew1).fin (.int .i64 3) (.int .i64 0) (.slice none 0 0) (.bool true) (.slice Ab b.length cb)
    exact bodyPost_ret (v := .tuple #[.agg #[.int .i64 3, .int .i64 0, (.slice none 0 0)], .agg #[.bool true, (.slice Ab b.length cb)]]) (by simp [results, Try.results11, go_sem, *]) rfl ⟨_, _, rfl, .inl ⟨rfl, rfl⟩, HBv.out.below hbw, hbw⟩


end Go.Proofs.Ytbbbdhpihcbmmaa
