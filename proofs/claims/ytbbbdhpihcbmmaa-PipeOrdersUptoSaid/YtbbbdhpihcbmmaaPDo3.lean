/- The walk of pipe's Do: stat and read. -/
import Derived.Test.YtbbbdhpihcbmmaaPDo2
import Derived.Deep.RegionHeld3
namespace Go.Proofs.Ytbbbdhpihcbmmaa
open Go.RowKit Own

theorem DF.ne {w0 w : World} {c : CallIn} {dv sv : Value} {has : Bool} {sl : List UInt8} {cb hb rb sb : Nat} (h : DF w0 c dv has sv sl cb hb rb sb w) : ¬ sb = rb ∧ ¬ rb = sb ∧ ¬ cb = rb ∧ ¬ rb = cb := by
  have h1 : ¬ sb = rb := by
    rintro rfl
    have := h.same.symm.trans h.rep
    injection this with this
    injection this with _ ht _
    exact absurd ht (by decide)
  have h2 : ¬ cb = rb := by
    rintro rfl
    have := h.call.symm.trans h.rep
    injection this with this
    injection this with _ ht _
    exact absurd ht (by decide)
  exact ⟨h1, fun e => h1 e.symm, h2, fun e => h2 e.symm⟩

set_option maxHeartbeats 4000000 in
theorem do_stat (k : Int) (s : ByteArray) (a : Int) (d : List UInt8) (n : Int) (dv bv : Value) (b : List UInt8) (w : World) (hd : ReadsB w dv d) (hb : ReadsB w bv b) (hbl : b.length ≤ 4096) (hs : s.size ≤ 140737488351232) (hm : MayC ⟨k, s, a, d, n⟩) (hk1 : (k == 1) = false) (hk2 : (k == 2) = false) (hk3 : (k == 3) = false) (hk4 : (k == 4) = false) (hk5 : (k == 5) = false) (hk6 : (k == 6) = true) :
    Calls Try.prog 7 #[.agg #[.int .i64 k, .string s, .int .i64 a, dv, .int .i64 n], .bool true, bv] w (DoPost ⟨0, b.length, [], true, b⟩ w) := by
  have HCk : Hid (∀ W sv sb, DF w ⟨k, s, a, d, n⟩ dv true sv b w.heap.size (w.heap.size + 1) (w.heap.size + 2) sb W → Calls Try.prog 15 #[callV ⟨k, s, a, d, n⟩ dv] W fun e w' => e = .returned (.int .i64 0) ∧ DF w ⟨k, s, a, d, n⟩ dv true sv b w.heap.size (w.heap.size + 1) (w.heap.size + 2) sb w') := fun W sv sb h => by
    have := df_check h hd hs
    rwa [mayN_yes hm] at this
  have HCl := Lib.hid (df_clone ⟨k, s, a, d, n⟩ dv true bv b w hb (by omega))
  obtain ⟨Ad, cd, rfl⟩ := hd.slice
  obtain ⟨Ab, cb, rfl⟩ := hb.slice
  clear hd hb hbl hs hm
  go_enter Try.func7, Try.ntmps7
  go_wp2_with (first
    | (go_at_call 19; (with_reducible refine HCl.out.mono ?_); rintro e w1 ⟨A1, cp1, rfl, hdf⟩; obtain ⟨c0, c1, c2, c3, c4, h0, s0, r0, r1, r2, z0, z1, z2⟩ := hdf.facts; have HD1 := Lib.hid hdf; clear hdf)
    | (go_at_call 15; refine (HCk.out _ _ _ HD1.out).mono ?_; clear c0 c1 c2 c3 c4 h0 s0 r0 r1 r2 z0 z1 z2; rintro e w2 ⟨rfl, hdf⟩; obtain ⟨c0, c1, c2, c3, c4, h0, s0, r0, r1, r2, z0, z1, z2⟩ := hdf.facts; obtain ⟨n1, n2, _, _⟩ := hdf.ne; have HD2 := Lib.hid hdf; clear hdf))
  go_region
  all_goals
    go_wp2_with fail
    obtain ⟨hbw, hpo⟩ := HD2.out.fin (.int .i64 0) (.int .i64 b.length) (.slice none 0 0)
    have hdr : ∀ W : World, Below W.heap.size W W.drew := fun W => ⟨rfl, rfl, rfl, Nat.le_refl _, fun _ _ => rfl⟩
    exact bodyPost_ret (v := .tuple #[.agg #[.int .i64 0, .int .i64 b.length, .slice none 0 0], .bool true, .slice A1 b.length cp1]) (by simp [results, Try.results7, go_sem, *]) rfl ⟨_, _, rfl, .inl ⟨rfl, rfl⟩, (hpo _ _ _ HD2.out.own).below (hdr _), hbw.trans ((hdr _).mono hbw.size)⟩

set_option maxHeartbeats 4000000 in
theorem do_read_in_few (k : Int) (s : ByteArray) (q : Nat) (d : List UInt8) (p : Nat) (dv : Value) (b : List UInt8) (w : World) (A : Addr) (cb : Nat) (hd : ReadsB w dv d) (hb : ReadsB w (.slice (some A) b.length cb) b) (hbl : b.length ≤ 4096) (hs : s.size ≤ 140737488351232) (hm : MayC ⟨k, s, q, d, p⟩) (hk1 : (k == 1) = false) (hk2 : (k == 2) = false) (hk3 : (k == 3) = false) (hk4 : (k == 4) = false) (hk5 : (k == 5) = true)
    (hf : ¬ (b.length : Int) < (q : Int)) (r : Nat) (hr : IntKind.i64.wrap ((b.length : Int) - (q : Int)) = (r : Int)) (hmm : ¬ (r : Int) < (p : Int)) (e : Nat) (he : IntKind.i64.wrap ((q : Int) + (p : Int)) = (e : Int)) (hfe : q ≤ e) (hel : e ≤ b.length) (hem : e - q = p) (hcb : b.length ≤ cb) (hcf : ¬ cb = q) (hsub : ∀ W, Below w.heap.size w W → ReadsB W (.slice (some (A.add q)) p (cb - q)) ((b.drop q).take p)) :
    Calls Try.prog 7 #[.agg #[.int .i64 k, .string s, .int .i64 q, dv, .int .i64 p], .bool true, (.slice (some A) b.length cb)] w (DoPost ⟨0, 0, ((b.drop q).take p), true, b⟩ w) := by
  have HCk : Hid (∀ W sv sb, DF w ⟨k, s, q, d, p⟩ dv true sv b w.heap.size (w.heap.size + 1) (w.heap.size + 2) sb W → Calls Try.prog 15 #[callV ⟨k, s, q, d, p⟩ dv] W fun e w' => e = .returned (.int .i64 0) ∧ DF w ⟨k, s, q, d, p⟩ dv true sv b w.heap.size (w.heap.size + 1) (w.heap.size + 2) sb w') := fun W sv sb h => by
    have := df_check h hd hs
    rwa [mayN_yes hm] at this
  have HCl := Lib.hid (df_clone ⟨k, s, q, d, p⟩ dv true (.slice (some A) b.length cb) b w hb (by omega))
  have HC2 : Hid (∀ W, Below w.heap.size w W → Calls Try.prog 19 #[(.slice (some (A.add q)) p (cb - q))] W fun e w' => ∃ A' n' c', e = .returned (.slice A' n' c') ∧ OwnB w.heap.size (.slice A' n' c') ((b.drop q).take p) w' ∧ Below W.heap.size W w') := fun W hW => by
    refine (clone_any _ ((b.drop q).take p) W (hsub W hW) (by rw [List.length_take, List.length_drop]; omega)).mono ?_
    rintro e w' ⟨v', rfl, ho, hb2, _⟩
    obtain ⟨A', c', rfl⟩ := own_slice ho
    exact ⟨_, _, _, rfl, (OwnB.of_row ho).mono hW.size, hb2⟩
  obtain ⟨Ad, cd, rfl⟩ := hd.slice
  have g5 : ¬ b.length < q := by omega
  have g6 : ¬ r < p := by omega
  have g1 : (q : Int) ≤ (e : Int) := by omega
  have g3 : (0 : Int) ≤ (q : Int) := by omega
  have g2 : (e : Int) ≤ (cb : Int) := by omega
  have g4 : e ≤ cb := by omega
  have HDr : Hid (∀ W : World, Below W.heap.size W W.drew) := fun W => ⟨rfl, rfl, rfl, Nat.le_refl _, fun _ _ => rfl⟩
  clear hd hs hm hb hbl hsub
  go_enter Try.func7, Try.ntmps7
  go_wp2_with (first
    | (go_at_call 19; (with_reducible refine HCl.out.mono ?_); rintro e w1 ⟨A1, cp1, rfl, hdf⟩; obtain ⟨c0, c1, c2, c3, c4, h0, s0, r0, r1, r2, z0, z1, z2⟩ := hdf.facts; have HD1 := Lib.hid hdf; clear hdf)
    | (go_at_call 15; refine (HCk.out _ _ _ HD1.out).mono ?_; clear c0 c1 c2 c3 c4 h0 s0 r0 r1 r2 z0 z1 z2; rintro e w2 ⟨rfl, hdf⟩; obtain ⟨c0, c1, c2, c3, c4, h0, s0, r0, r1, r2, z0, z1, z2⟩ := hdf.facts; obtain ⟨n1, n2, n3, n4⟩ := hdf.ne; have HD2 := Lib.hid hdf; clear hdf))
  go_region_held3 (fun w' => w'.cell? ⟨w.heap.size, 4, none⟩ = some (.int .i64 p) ∧ w'.cell? ⟨w1.heap.size, 0, none⟩ = some (.slice A1 b.length cp1)) (go_keep)
    (first
      | (go_at_call 19; (with_reducible refine (HC2.out w2.drew (HD2.out.below.trans ((HDr.out w2).mono HD2.out.below.size))).mono ?_); clear c0 c1 c2 c3 c4 h0 s0 r0 r1 r2 z0 z1 z2; rintro e w3 ⟨A3, l3, p3, rfl, ho, hbb⟩; have hdf := HD2.out.go ((HDr.out w2).trans hbb); obtain ⟨c0, c1, c2, c3, c4, h0, s0, r0, r1, r2, z0, z1, z2⟩ := hdf.facts; have HD3 := Lib.hid hdf; have HO := Lib.hid ho; clear hdf ho hbb))
  all_goals
    go_wp2_with fail
    obtain ⟨hbw, hpo⟩ := HD3.out.fin (.int .i64 0) (.int .i64 0) (.slice A3 l3 p3)
    exact bodyPost_ret (v := .tuple #[.agg #[.int .i64 0, .int .i64 0, .slice A3 l3 p3], .bool true, .slice A1 b.length cp1]) (by simp [results, Try.results7, go_sem, *]) rfl ⟨_, _, rfl, hpo _ _ _ HO.out, hpo _ _ _ HD3.out.own, hbw⟩

set_option maxHeartbeats 4000000 in
theorem do_read_end_few_past (k : Int) (s : ByteArray) (d : List UInt8) (dv : Value) (b : List UInt8) (w : World) (A : Addr) (cb : Nat) (hd : ReadsB w dv d) (hb : ReadsB w (.slice (some A) b.length cb) b) (hbl : b.length ≤ 4096) (hs : s.size ≤ 140737488351232) (hm : MayC ⟨k, s, b.length, d, 0⟩) (hk1 : (k == 1) = false) (hk2 : (k == 2) = false) (hk3 : (k == 3) = false) (hk4 : (k == 4) = false) (hk5 : (k == 5) = true)
    (hwl : IntKind.i64.wrap (b.length : Int) = (b.length : Int)) (hcb : b.length ≤ cb) (hcf : ¬ cb = b.length) :
    Calls Try.prog 7 #[.agg #[.int .i64 k, .string s, .int .i64 b.length, dv, .int .i64 0], .bool true, (.slice (some A) b.length cb)] w (DoPost ⟨0, 0, [], true, b⟩ w) := by
  have HCk : Hid (∀ W sv sb, DF w ⟨k, s, b.length, d, 0⟩ dv true sv b w.heap.size (w.heap.size + 1) (w.heap.size + 2) sb W → Calls Try.prog 15 #[callV ⟨k, s, b.length, d, 0⟩ dv] W fun e w' => e = .returned (.int .i64 0) ∧ DF w ⟨k, s, b.length, d, 0⟩ dv true sv b w.heap.size (w.heap.size + 1) (w.heap.size + 2) sb w') := fun W sv sb h => by
    have := df_check h hd hs
    rwa [mayN_yes hm] at this
  have HCl := Lib.hid (df_clone ⟨k, s, b.length, d, 0⟩ dv true (.slice (some A) b.length cb) b w hb (by omega))
  have HC2 : Hid (∀ W, Below w.heap.size w W → Calls Try.prog 19 #[(.slice (some (A.add b.length)) 0 (cb - b.length))] W fun e w' => ∃ A' n' c', e = .returned (.slice A' n' c') ∧ OwnB w.heap.size (.slice A' n' c') [] w' ∧ Below W.heap.size W w') := fun W hW => by
    refine (clone_any _ [] W (.inr ⟨_, _, rfl, fun j u hu => by simp [u8s] at hu⟩) (by simp)).mono ?_
    rintro e w' ⟨v', rfl, ho, hb2, _⟩
    obtain ⟨A', c', rfl⟩ := own_slice ho
    exact ⟨_, _, _, rfl, (OwnB.of_row ho).mono hW.size, hb2⟩
  obtain ⟨Ad, cd, rfl⟩ := hd.slice
  have g0 : IntKind.i64.wrap 0 = 0 := by decide
  have g2 : (b.length : Int) ≤ (cb : Int) := by omega
  have g4 : b.length ≤ cb := by omega
  have HDr : Hid (∀ W : World, Below W.heap.size W W.drew) := fun W => ⟨rfl, rfl, rfl, Nat.le_refl _, fun _ _ => rfl⟩
  clear hd hs hm hb hbl
  go_enter Try.func7, Try.ntmps7
  go_wp2_with (first
    | (go_at_call 19; (with_reducible refine HCl.out.mono ?_); rintro e w1 ⟨A1, cp1, rfl, hdf⟩; obtain ⟨c0, c1, c2, c3, c4, h0, s0, r0, r1, r2, z0, z1, z2⟩ := hdf.facts; have HD1 := Lib.hid hdf; clear hdf)
    | (go_at_call 15; refine (HCk.out _ _ _ HD1.out).mono ?_; clear c0 c1 c2 c3 c4 h0 s0 r0 r1 r2 z0 z1 z2; rintro e w2 ⟨rfl, hdf⟩; obtain ⟨c0, c1, c2, c3, c4, h0, s0, r0, r1, r2, z0, z1, z2⟩ := hdf.facts; obtain ⟨n1, n2, n3, n4⟩ := hdf.ne; have HD2 := Lib.hid hdf; clear hdf))
  go_region_held3 (fun w' => w'.cell? ⟨w.heap.size, 4, none⟩ = some (.int .i64 0) ∧ w'.cell? ⟨w1.heap.size, 0, none⟩ = some (.slice A1 b.length cp1)) (go_keep)
    (first
      | (go_at_call 19; (with_reducible refine (HC2.out w2.drew (HD2.out.below.trans ((HDr.out w2).mono HD2.out.below.size))).mono ?_); clear c0 c1 c2 c3 c4 h0 s0 r0 r1 r2 z0 z1 z2; rintro e w3 ⟨A3, l3, p3, rfl, ho, hbb⟩; have hdf := HD2.out.go ((HDr.out w2).trans hbb); obtain ⟨c0, c1, c2, c3, c4, h0, s0, r0, r1, r2, z0, z1, z2⟩ := hdf.facts; have HD3 := Lib.hid hdf; have HO := Lib.hid ho; clear hdf ho hbb))
  all_goals
    go_wp2_with fail
    obtain ⟨hbw, hpo⟩ := HD3.out.fin (.int .i64 0) (.int .i64 0) (.slice A3 l3 p3)
    exact bodyPost_ret (v := .tuple #[.agg #[.int .i64 0, .int .i64 0, .slice A3 l3 p3], .bool true, .slice A1 b.length cp1]) (by simp [results, Try.results7, go_sem, *]) rfl ⟨_, _, rfl, hpo _ _ _ HO.out, hpo _ _ _ HD3.out.own, hbw⟩

set_option maxHeartbeats 4000000 in
theorem do_read_end_few_full (k : Int) (s : ByteArray) (d : List UInt8) (dv : Value) (b : List UInt8) (w : World) (A : Addr) (hd : ReadsB w dv d) (hb : ReadsB w (.slice (some A) b.length b.length) b) (hbl : b.length ≤ 4096) (hs : s.size ≤ 140737488351232) (hm : MayC ⟨k, s, b.length, d, 0⟩) (hk1 : (k == 1) = false) (hk2 : (k == 2) = false) (hk3 : (k == 3) = false) (hk4 : (k == 4) = false) (hk5 : (k == 5) = true)
    (hwl : IntKind.i64.wrap (b.length : Int) = (b.length : Int)) :
    Calls Try.prog 7 #[.agg #[.int .i64 k, .string s, .int .i64 b.length, dv, .int .i64 0], .bool true, (.slice (some A) b.length b.length)] w (DoPost ⟨0, 0, [], true, b⟩ w) := by
  have HCk : Hid (∀ W sv sb, DF w ⟨k, s, b.length, d, 0⟩ dv true sv b w.heap.size (w.heap.size + 1) (w.heap.size + 2) sb W → Calls Try.prog 15 #[callV ⟨k, s, b.length, d, 0⟩ dv] W fun e w' => e = .returned (.int .i64 0) ∧ DF w ⟨k, s, b.length, d, 0⟩ dv true sv b w.heap.size (w.heap.size + 1) (w.heap.size + 2) sb w') := fun W sv sb h => by
    have := df_check h hd hs
    rwa [mayN_yes hm] at this
  have HCl := Lib.hid (df_clone ⟨k, s, b.length, d, 0⟩ dv true (.slice (some A) b.length b.length) b w hb (by omega))
  have HC2 : Hid (∀ W, Below w.heap.size w W → Calls Try.prog 19 #[(.slice (some A) 0 0)] W fun e w' => ∃ A' n' c', e = .returned (.slice A' n' c') ∧ OwnB w.heap.size (.slice A' n' c') [] w' ∧ Below W.heap.size W w') := fun W hW => by
    refine (clone_any _ [] W (.inr ⟨_, _, rfl, fun j u hu => by simp [u8s] at hu⟩) (by simp)).mono ?_
    rintro e w' ⟨v', rfl, ho, hb2, _⟩
    obtain ⟨A', c', rfl⟩ := own_slice ho
    exact ⟨_, _, _, rfl, (OwnB.of_row ho).mono hW.size, hb2⟩
  obtain ⟨Ad, cd, rfl⟩ := hd.slice
  have g0 : IntKind.i64.wrap 0 = 0 := by decide
  have HDr : Hid (∀ W : World, Below W.heap.size W W.drew) := fun W => ⟨rfl, rfl, rfl, Nat.le_refl _, fun _ _ => rfl⟩
  clear hd hs hm hb hbl
  go_enter Try.func7, Try.ntmps7
  go_wp2_with (first
    | (go_at_call 19; (with_reducible refine HCl.out.mono ?_); rintro e w1 ⟨A1, cp1, rfl, hdf⟩; obtain ⟨c0, c1, c2, c3, c4, h0, s0, r0, r1, r2, z0, z1, z2⟩ := hdf.facts; have HD1 := Lib.hid hdf; clear hdf)
    | (go_at_call 15; refine (HCk.out _ _ _ HD1.out).mono ?_; clear c0 c1 c2 c3 c4 h0 s0 r0 r1 r2 z0 z1 z2; rintro e w2 ⟨rfl, hdf⟩; obtain ⟨c0, c1, c2, c3, c4, h0, s0, r0, r1, r2, z0, z1, z2⟩ := hdf.facts; obtain ⟨n1, n2, n3, n4⟩ := hdf.ne; have HD2 := Lib.hid hdf; clear hdf))
  go_region_held3 (fun w' => w'.cell? ⟨w.heap.size, 4, none⟩ = some (.int .i64 0) ∧ w'.cell? ⟨w1.heap.size, 0, none⟩ = some (.slice A1 b.length cp1)) (go_keep)
    (first
      | (go_at_call 19; (with_reducible refine (HC2.out w2.drew (HD2.out.below.trans ((HDr.out w2).mono HD2.out.below.size))).mono ?_); clear c0 c1 c2 c3 c4 h0 s0 r0 r1 r2 z0 z1 z2; rintro e w3 ⟨A3, l3, p3, rfl, ho, hbb⟩; have hdf := HD2.out.go ((HDr.out w2).trans hbb); obtain ⟨c0, c1, c2, c3, c4, h0, s0, r0, r1, r2, z0, z1, z2⟩ := hdf.facts; have HD3 := Lib.hid hdf; have HO := Lib.hid ho; clear hdf ho hbb))
  all_goals
    go_wp2_with fail
    obtain ⟨hbw, hpo⟩ := HD3.out.fin (.int .i64 0) (.int .i64 0) (.slice A3 l3 p3)
    exact bodyPost_ret (v := .tuple #[.agg #[.int .i64 0, .int .i64 0, .slice A3 l3 p3], .bool true, .slice A1 b.length cp1]) (by simp [results, Try.results7, go_sem, *]) rfl ⟨_, _, rfl, hpo _ _ _ HO.out, hpo _ _ _ HD3.out.own, hbw⟩

set_option maxHeartbeats 4000000 in
theorem do_read_out_few_past (k : Int) (s : ByteArray) (q : Nat) (d : List UInt8) (dv : Value) (b : List UInt8) (w : World) (A : Addr) (cb : Nat) (hd : ReadsB w dv d) (hb : ReadsB w (.slice (some A) b.length cb) b) (hbl : b.length ≤ 4096) (hs : s.size ≤ 140737488351232) (hm : MayC ⟨k, s, q, d, 0⟩) (hk1 : (k == 1) = false) (hk2 : (k == 2) = false) (hk3 : (k == 3) = false) (hk4 : (k == 4) = false) (hk5 : (k == 5) = true)
    (hwl : IntKind.i64.wrap (b.length : Int) = (b.length : Int)) (hf : (b.length : Int) < (q : Int)) (hcb : b.length ≤ cb) (hcf : ¬ cb = b.length) :
    Calls Try.prog 7 #[.agg #[.int .i64 k, .string s, .int .i64 q, dv, .int .i64 0], .bool true, (.slice (some A) b.length cb)] w (DoPost ⟨0, 0, [], true, b⟩ w) := by
  have HCk : Hid (∀ W sv sb, DF w ⟨k, s, q, d, 0⟩ dv true sv b w.heap.size (w.heap.size + 1) (w.heap.size + 2) sb W → Calls Try.prog 15 #[callV ⟨k, s, q, d, 0⟩ dv] W fun e w' => e = .returned (.int .i64 0) ∧ DF w ⟨k, s, q, d, 0⟩ dv true sv b w.heap.size (w.heap.size + 1) (w.heap.size + 2) sb w') := fun W sv sb h => by
    have := df_check h hd hs
    rwa [mayN_yes hm] at this
  have HCl := Lib.hid (df_clone ⟨k, s, q, d, 0⟩ dv true (.slice (some A) b.length cb) b w hb (by omega))
  have HC2 : Hid (∀ W, Below w.heap.size w W → Calls Try.prog 19 #[(.slice (some (A.add b.length)) 0 (cb - b.length))] W fun e w' => ∃ A' n' c', e = .returned (.slice A' n' c') ∧ OwnB w.heap.size (.slice A' n' c') [] w' ∧ Below W.heap.size W w') := fun W hW => by
    refine (clone_any _ [] W (.inr ⟨_, _, rfl, fun j u hu => by simp [u8s] at hu⟩) (by simp)).mono ?_
    rintro e w' ⟨v', rfl, ho, hb2, _⟩
    obtain ⟨A', c', rfl⟩ := own_slice ho
    exact ⟨_, _, _, rfl, (OwnB.of_row ho).mono hW.size, hb2⟩
  obtain ⟨Ad, cd, rfl⟩ := hd.slice
  have g0 : IntKind.i64.wrap 0 = 0 := by decide
  have g5 : b.length < q := by omega
  have g2 : (b.length : Int) ≤ (cb : Int) := by omega
  have g4 : b.length ≤ cb := by omega
  have HDr : Hid (∀ W : World, Below W.heap.size W W.drew) := fun W => ⟨rfl, rfl, rfl, Nat.le_refl _, fun _ _ => rfl⟩
  clear hd hs hm hb hbl
  go_enter Try.func7, Try.ntmps7
  go_wp2_with (first
    | (go_at_call 19; (with_reducible refine HCl.out.mono ?_); rintro e w1 ⟨A1, cp1, rfl, hdf⟩; obtain ⟨c0, c1, c2, c3, c4, h0, s0, r0, r1, r2, z0, z1, z2⟩ := hdf.facts; have HD1 := Lib.hid hdf; clear hdf)
    | (go_at_call 15; refine (HCk.out _ _ _ HD1.out).mono ?_; clear c0 c1 c2 c3 c4 h0 s0 r0 r1 r2 z0 z1 z2; rintro e w2 ⟨rfl, hdf⟩; obtain ⟨c0, c1, c2, c3, c4, h0, s0, r0, r1, r2, z0, z1, z2⟩ := hdf.facts; obtain ⟨n1, n2, n3, n4⟩ := hdf.ne; have HD2 := Lib.hid hdf; clear hdf))
  go_region_held3 (fun w' => w'.cell? ⟨w.heap.size, 4, none⟩ = some (.int .i64 0) ∧ w'.cell? ⟨w1.heap.size, 0, none⟩ = some (.slice A1 b.length cp1)) (go_keep)
    (first
      | (go_at_call 19; (with_reducible refine (HC2.out w2.drew (HD2.out.below.trans ((HDr.out w2).mono HD2.out.below.size))).mono ?_); clear c0 c1 c2 c3 c4 h0 s0 r0 r1 r2 z0 z1 z2; rintro e w3 ⟨A3, l3, p3, rfl, ho, hbb⟩; have hdf := HD2.out.go ((HDr.out w2).trans hbb); obtain ⟨c0, c1, c2, c3, c4, h0, s0, r0, r1, r2, z0, z1, z2⟩ := hdf.facts; have HD3 := Lib.hid hdf; have HO := Lib.hid ho; clear hdf ho hbb))
  all_goals
    go_wp2_with fail
    obtain ⟨hbw, hpo⟩ := HD3.out.fin (.int .i64 0) (.int .i64 0) (.slice A3 l3 p3)
    exact bodyPost_ret (v := .tuple #[.agg #[.int .i64 0, .int .i64 0, .slice A3 l3 p3], .bool true, .slice A1 b.length cp1]) (by simp [results, Try.results7, go_sem, *]) rfl ⟨_, _, rfl, hpo _ _ _ HO.out, hpo _ _ _ HD3.out.own, hbw⟩

set_option maxHeartbeats 4000000 in
theorem do_read_out_few_full (k : Int) (s : ByteArray) (q : Nat) (d : List UInt8) (dv : Value) (b : List UInt8) (w : World) (A : Addr) (hd : ReadsB w dv d) (hb : ReadsB w (.slice (some A) b.length b.length) b) (hbl : b.length ≤ 4096) (hs : s.size ≤ 140737488351232) (hm : MayC ⟨k, s, q, d, 0⟩) (hk1 : (k == 1) = false) (hk2 : (k == 2) = false) (hk3 : (k == 3) = false) (hk4 : (k == 4) = false) (hk5 : (k == 5) = true)
    (hwl : IntKind.i64.wrap (b.length : Int) = (b.length : Int)) (hf : (b.length : Int) < (q : Int)) :
    Calls Try.prog 7 #[.agg #[.int .i64 k, .string s, .int .i64 q, dv, .int .i64 0], .bool true, (.slice (some A) b.length b.length)] w (DoPost ⟨0, 0, [], true, b⟩ w) := by
  have HCk : Hid (∀ W sv sb, DF w ⟨k, s, q, d, 0⟩ dv true sv b w.heap.size (w.heap.size + 1) (w.heap.size + 2) sb W → Calls Try.prog 15 #[callV ⟨k, s, q, d, 0⟩ dv] W fun e w' => e = .returned (.int .i64 0) ∧ DF w ⟨k, s, q, d, 0⟩ dv true sv b w.heap.size (w.heap.size + 1) (w.heap.size + 2) sb w') := fun W sv sb h => by
    have := df_check h hd hs
    rwa [mayN_yes hm] at this
  have HCl := Lib.hid (df_clone ⟨k, s, q, d, 0⟩ dv true (.slice (some A) b.length b.length) b w hb (by omega))
  have HC2 : Hid (∀ W, Below w.heap.size w W → Calls Try.prog 19 #[(.slice (some A) 0 0)] W fun e w' => ∃ A' n' c', e = .returned (.slice A' n' c') ∧ OwnB w.heap.size (.slice A' n' c') [] w' ∧ Below W.heap.size W w') := fun W hW => by
    refine (clone_any _ [] W (.inr ⟨_, _, rfl, fun j u hu => by simp [u8s] at hu⟩) (by simp)).mono ?_
    rintro e w' ⟨v', rfl, ho, hb2, _⟩
    obtain ⟨A', c', rfl⟩ := own_slice ho
    exact ⟨_, _, _, rfl, (OwnB.of_row ho).mono hW.size, hb2⟩
  obtain ⟨Ad, cd, rfl⟩ := hd.slice
  have g0 : IntKind.i64.wrap 0 = 0 := by decide
  have g5 : b.length < q := by omega
  have HDr : Hid (∀ W : World, Below W.heap.size W W.drew) := fun W => ⟨rfl, rfl, rfl, Nat.le_refl _, fun _ _ => rfl⟩
  clear hd hs hm hb hbl
  go_enter Try.func7, Try.ntmps7
  go_wp2_with (first
    | (go_at_call 19; (with_reducible refine HCl.out.mono ?_); rintro e w1 ⟨A1, cp1, rfl, hdf⟩; obtain ⟨c0, c1, c2, c3, c4, h0, s0, r0, r1, r2, z0, z1, z2⟩ := hdf.facts; have HD1 := Lib.hid hdf; clear hdf)
    | (go_at_call 15; refine (HCk.out _ _ _ HD1.out).mono ?_; clear c0 c1 c2 c3 c4 h0 s0 r0 r1 r2 z0 z1 z2; rintro e w2 ⟨rfl, hdf⟩; obtain ⟨c0, c1, c2, c3, c4, h0, s0, r0, r1, r2, z0, z1, z2⟩ := hdf.facts; obtain ⟨n1, n2, n3, n4⟩ := hdf.ne; have HD2 := Lib.hid hdf; clear hdf))
  go_region_held3 (fun w' => w'.cell? ⟨w.heap.size, 4, none⟩ = some (.int .i64 0) ∧ w'.cell? ⟨w1.heap.size, 0, none⟩ = some (.slice A1 b.length cp1)) (go_keep)
    (first
      | (go_at_call 19; (with_reducible refine (HC2.out w2.drew (HD2.out.below.trans ((HDr.out w2).mono HD2.out.below.size))).mono ?_); clear c0 c1 c2 c3 c4 h0 s0 r0 r1 r2 z0 z1 z2; rintro e w3 ⟨A3, l3, p3, rfl, ho, hbb⟩; have hdf := HD2.out.go ((HDr.out w2).trans hbb); obtain ⟨c0, c1, c2, c3, c4, h0, s0, r0, r1, r2, z0, z1, z2⟩ := hdf.facts; have HD3 := Lib.hid hdf; have HO := Lib.hid ho; clear hdf ho hbb))
  all_goals
    go_wp2_with fail
    obtain ⟨hbw, hpo⟩ := HD3.out.fin (.int .i64 0) (.int .i64 0) (.slice A3 l3 p3)
    exact bodyPost_ret (v := .tuple #[.agg #[.int .i64 0, .int .i64 0, .slice A3 l3 p3], .bool true, .slice A1 b.length cp1]) (by simp [results, Try.results7, go_sem, *]) rfl ⟨_, _, rfl, hpo _ _ _ HO.out, hpo _ _ _ HD3.out.own, hbw⟩

set_option maxHeartbeats 4000000 in
theorem do_read_nil_zero_few (k : Int) (s : ByteArray) (d : List UInt8) (dv : Value) (w : World) (hd : ReadsB w dv d) (hs : s.size ≤ 140737488351232) (hm : MayC ⟨k, s, 0, d, 0⟩) (hk1 : (k == 1) = false) (hk2 : (k == 2) = false) (hk3 : (k == 3) = false) (hk4 : (k == 4) = false) (hk5 : (k == 5) = true) :
    Calls Try.prog 7 #[.agg #[.int .i64 k, .string s, .int .i64 0, dv, .int .i64 0], .bool true, (.slice none 0 0)] w (DoPost ⟨0, 0, [], true, []⟩ w) := by
  have HCk : Hid (∀ W sv sb, DF w ⟨k, s, 0, d, 0⟩ dv true sv [] w.heap.size (w.heap.size + 1) (w.heap.size + 2) sb W → Calls Try.prog 15 #[callV ⟨k, s, 0, d, 0⟩ dv] W fun e w' => e = .returned (.int .i64 0) ∧ DF w ⟨k, s, 0, d, 0⟩ dv true sv [] w.heap.size (w.heap.size + 1) (w.heap.size + 2) sb w') := fun W sv sb h => by
    have := df_check h hd hs
    rwa [mayN_yes hm] at this
  have hCl := df_clone ⟨k, s, 0, d, 0⟩ dv true (.slice none 0 0) [] w (.inl ⟨rfl, rfl⟩) (by simp)
  simp only [List.length_nil] at hCl
  have HCl := Lib.hid hCl
  clear hCl
  have HC2 : Hid (∀ W, Below w.heap.size w W → Calls Try.prog 19 #[(.slice none 0 0)] W fun e w' => ∃ A' n' c', e = .returned (.slice A' n' c') ∧ OwnB w.heap.size (.slice A' n' c') [] w' ∧ Below W.heap.size W w') := fun W hW => by
    refine (clone_any _ [] W (.inl ⟨rfl, rfl⟩) (by simp)).mono ?_
    rintro e w' ⟨v', rfl, ho, hb2, _⟩
    obtain ⟨A', c', rfl⟩ := own_slice ho
    exact ⟨_, _, _, rfl, (OwnB.of_row ho).mono hW.size, hb2⟩
  obtain ⟨Ad, cd, rfl⟩ := hd.slice
  have g0 : IntKind.i64.wrap 0 = 0 := by decide
  have HDr : Hid (∀ W : World, Below W.heap.size W W.drew) := fun W => ⟨rfl, rfl, rfl, Nat.le_refl _, fun _ _ => rfl⟩
  clear hd hs hm
  go_enter Try.func7, Try.ntmps7
  go_wp2_with (first
    | (go_at_call 19; (with_reducible refine HCl.out.mono ?_); rintro e w1 ⟨A1, cp1, rfl, hdf⟩; obtain ⟨c0, c1, c2, c3, c4, h0, s0, r0, r1, r2, z0, z1, z2⟩ := hdf.facts; have HD1 := Lib.hid hdf; clear hdf)
    | (go_at_call 15; refine (HCk.out _ _ _ HD1.out).mono ?_; clear c0 c1 c2 c3 c4 h0 s0 r0 r1 r2 z0 z1 z2; rintro e w2 ⟨rfl, hdf⟩; obtain ⟨c0, c1, c2, c3, c4, h0, s0, r0, r1, r2, z0, z1, z2⟩ := hdf.facts; obtain ⟨n1, n2, n3, n4⟩ := hdf.ne; have HD2 := Lib.hid hdf; clear hdf))
  go_region_held3 (fun w' => w'.cell? ⟨w.heap.size, 4, none⟩ = some (.int .i64 0) ∧ w'.cell? ⟨w1.heap.size, 0, none⟩ = some (.slice A1 0 cp1)) (go_keep)
    (first
      | (go_at_call 19; (with_reducible refine (HC2.out w2.drew (HD2.out.below.trans ((HDr.out w2).mono HD2.out.below.size))).mono ?_); clear c0 c1 c2 c3 c4 h0 s0 r0 r1 r2 z0 z1 z2; rintro e w3 ⟨A3, l3, p3, rfl, ho, hbb⟩; have hdf := HD2.out.go ((HDr.out w2).trans hbb); obtain ⟨c0, c1, c2, c3, c4, h0, s0, r0, r1, r2, z0, z1, z2⟩ := hdf.facts; have HD3 := Lib.hid hdf; have HO := Lib.hid ho; clear hdf ho hbb))
  all_goals
    go_wp2_with fail
    obtain ⟨hbw, hpo⟩ := HD3.out.fin (.int .i64 0) (.int .i64 0) (.slice A3 l3 p3)
    exact bodyPost_ret (v := .tuple #[.agg #[.int .i64 0, .int .i64 0, .slice A3 l3 p3], .bool true, .slice A1 0 cp1]) (by simp [results, Try.results7, go_sem, *]) rfl ⟨_, _, rfl, hpo _ _ _ HO.out, hpo _ _ _ HD3.out.own, hbw⟩

set_option maxHeartbeats 4000000 in
theorem do_read_nil_some_few (k : Int) (s : ByteArray) (q : Nat) (d : List UInt8) (dv : Value) (w : World) (hd : ReadsB w dv d) (hs : s.size ≤ 140737488351232) (hm : MayC ⟨k, s, q, d, 0⟩) (hk1 : (k == 1) = false) (hk2 : (k == 2) = false) (hk3 : (k == 3) = false) (hk4 : (k == 4) = false) (hk5 : (k == 5) = true) (hf : (0 : Int) < (q : Int)) :
    Calls Try.prog 7 #[.agg #[.int .i64 k, .string s, .int .i64 q, dv, .int .i64 0], .bool true, (.slice none 0 0)] w (DoPost ⟨0, 0, [], true, []⟩ w) := by
  have HCk : Hid (∀ W sv sb, DF w ⟨k, s, q, d, 0⟩ dv true sv [] w.heap.size (w.heap.size + 1) (w.heap.size + 2) sb W → Calls Try.prog 15 #[callV ⟨k, s, q, d, 0⟩ dv] W fun e w' => e = .returned (.int .i64 0) ∧ DF w ⟨k, s, q, d, 0⟩ dv true sv [] w.heap.size (w.heap.size + 1) (w.heap.size + 2) sb w') := fun W sv sb h => by
    have := df_check h hd hs
    rwa [mayN_yes hm] at this
  have hCl := df_clone ⟨k, s, q, d, 0⟩ dv true (.slice none 0 0) [] w (.inl ⟨rfl, rfl⟩) (by simp)
  simp only [List.length_nil] at hCl
  have HCl := Lib.hid hCl
  clear hCl
  have HC2 : Hid (∀ W, Below w.heap.size w W → Calls Try.prog 19 #[(.slice none 0 0)] W fun e w' => ∃ A' n' c', e = .returned (.slice A' n' c') ∧ OwnB w.heap.size (.slice A' n' c') [] w' ∧ Below W.heap.size W w') := fun W hW => by
    refine (clone_any _ [] W (.inl ⟨rfl, rfl⟩) (by simp)).mono ?_
    rintro e w' ⟨v', rfl, ho, hb2, _⟩
    obtain ⟨A', c', rfl⟩ := own_slice ho
    exact ⟨_, _, _, rfl, (OwnB.of_row ho).mono hW.size, hb2⟩
  obtain ⟨Ad, cd, rfl⟩ := hd.slice
  have g0 : IntKind.i64.wrap 0 = 0 := by decide
  have g5 : 0 < q := by omega
  have HDr : Hid (∀ W : World, Below W.heap.size W W.drew) := fun W => ⟨rfl, rfl, rfl, Nat.le_refl _, fun _ _ => rfl⟩
  clear hd hs hm
  go_enter Try.func7, Try.ntmps7
  go_wp2_with (first
    | (go_at_call 19; (with_reducible refine HCl.out.mono ?_); rintro e w1 ⟨A1, cp1, rfl, hdf⟩; obtain ⟨c0, c1, c2, c3, c4, h0, s0, r0, r1, r2, z0, z1, z2⟩ := hdf.facts; have HD1 := Lib.hid hdf; clear hdf)
    | (go_at_call 15; refine (HCk.out _ _ _ HD1.out).mono ?_; clear c0 c1 c2 c3 c4 h0 s0 r0 r1 r2 z0 z1 z2; rintro e w2 ⟨rfl, hdf⟩; obtain ⟨c0, c1, c2, c3, c4, h0, s0, r0, r1, r2, z0, z1, z2⟩ := hdf.facts; obtain ⟨n1, n2, n3, n4⟩ := hdf.ne; have HD2 := Lib.hid hdf; clear hdf))
  go_region_held3 (fun w' => w'.cell? ⟨w.heap.size, 4, none⟩ = some (.int .i64 0) ∧ w'.cell? ⟨w1.heap.size, 0, none⟩ = some (.slice A1 0 cp1)) (go_keep)
    (first
      | (go_at_call 19; (with_reducible refine (HC2.out w2.drew (HD2.out.below.trans ((HDr.out w2).mono HD2.out.below.size))).mono ?_); clear c0 c1 c2 c3 c4 h0 s0 r0 r1 r2 z0 z1 z2; rintro e w3 ⟨A3, l3, p3, rfl, ho, hbb⟩; have hdf := HD2.out.go ((HDr.out w2).trans hbb); obtain ⟨c0, c1, c2, c3, c4, h0, s0, r0, r1, r2, z0, z1, z2⟩ := hdf.facts; have HD3 := Lib.hid hdf; have HO := Lib.hid ho; clear hdf ho hbb))
  all_goals
    go_wp2_with fail
    obtain ⟨hbw, hpo⟩ := HD3.out.fin (.int .i64 0) (.int .i64 0) (.slice A3 l3 p3)
    exact bodyPost_ret (v := .tuple #[.agg #[.int .i64 0, .int .i64 0, .slice A3 l3 p3], .bool true, .slice A1 0 cp1]) (by simp [results, Try.results7, go_sem, *]) rfl ⟨_, _, rfl, hpo _ _ _ HO.out, hpo _ _ _ HD3.out.own, hbw⟩

set_option maxHeartbeats 4000000 in
theorem do_read_in_all (k : Int) (s : ByteArray) (q : Nat) (d : List UInt8) (p : Nat) (dv : Value) (b : List UInt8) (w : World) (A : Addr) (cb : Nat) (hd : ReadsB w dv d) (hb : ReadsB w (.slice (some A) b.length cb) b) (hbl : b.length ≤ 4096) (hs : s.size ≤ 140737488351232) (hm : MayC ⟨k, s, q, d, p⟩) (hk1 : (k == 1) = false) (hk2 : (k == 2) = false) (hk3 : (k == 3) = false) (hk4 : (k == 4) = false) (hk5 : (k == 5) = true)
    (hf : ¬ (b.length : Int) < (q : Int)) (r : Nat) (hr : IntKind.i64.wrap ((b.length : Int) - (q : Int)) = (r : Int)) (hmm : (r : Int) < (p : Int)) (e : Nat) (he : IntKind.i64.wrap ((q : Int) + (r : Int)) = (e : Int)) (hfe : q ≤ e) (hel : e ≤ b.length) (hem : e - q = r) (hcb : b.length ≤ cb) (hcf : ¬ cb = q) (hsub : ∀ W, Below w.heap.size w W → ReadsB W (.slice (some (A.add q)) r (cb - q)) ((b.drop q).take r)) :
    Calls Try.prog 7 #[.agg #[.int .i64 k, .string s, .int .i64 q, dv, .int .i64 p], .bool true, (.slice (some A) b.length cb)] w (DoPost ⟨0, 0, ((b.drop q).take r), true, b⟩ w) := by
  have HCk : Hid (∀ W sv sb, DF w ⟨k, s, q, d, p⟩ dv true sv b w.heap.size (w.heap.size + 1) (w.heap.size + 2) sb W → Calls Try.prog 15 #[callV ⟨k, s, q, d, p⟩ dv] W fun e w' => e = .returned (.int .i64 0) ∧ DF w ⟨k, s, q, d, p⟩ dv true sv b w.heap.size (w.heap.size + 1) (w.heap.size + 2) sb w') := fun W sv sb h => by
    have := df_check h hd hs
    rwa [mayN_yes hm] at this
  have HCl := Lib.hid (df_clone ⟨k, s, q, d, p⟩ dv true (.slice (some A) b.length cb) b w hb (by omega))
  have HC2 : Hid (∀ W, Below w.heap.size w W → Calls Try.prog 19 #[(.slice (some (A.add q)) r (cb - q))] W fun e w' => ∃ A' n' c', e = .returned (.slice A' n' c') ∧ OwnB w.heap.size (.slice A' n' c') ((b.drop q).take r) w' ∧ Below W.heap.size W w') := fun W hW => by
    refine (clone_any _ ((b.drop q).take r) W (hsub W hW) (by rw [List.length_take, List.length_drop]; omega)).mono ?_
    rintro e w' ⟨v', rfl, ho, hb2, _⟩
    obtain ⟨A', c', rfl⟩ := own_slice ho
    exact ⟨_, _, _, rfl, (OwnB.of_row ho).mono hW.size, hb2⟩
  obtain ⟨Ad, cd, rfl⟩ := hd.slice
  have g5 : ¬ b.length < q := by omega
  have g6 : r < p := by omega
  have g1 : (q : Int) ≤ (e : Int) := by omega
  have g3 : (0 : Int) ≤ (q : Int) := by omega
  have g2 : (e : Int) ≤ (cb : Int) := by omega
  have g4 : e ≤ cb := by omega
  have HDr : Hid (∀ W : World, Below W.heap.size W W.drew) := fun W => ⟨rfl, rfl, rfl, Nat.le_refl _, fun _ _ => rfl⟩
  clear hd hs hm hb hbl hsub
  go_enter Try.func7, Try.ntmps7
  go_wp2_with (first
    | (go_at_call 19; (with_reducible refine HCl.out.mono ?_); rintro e w1 ⟨A1, cp1, rfl, hdf⟩; obtain ⟨c0, c1, c2, c3, c4, h0, s0, r0, r1, r2, z0, z1, z2⟩ := hdf.facts; have HD1 := Lib.hid hdf; clear hdf)
    | (go_at_call 15; refine (HCk.out _ _ _ HD1.out).mono ?_; clear c0 c1 c2 c3 c4 h0 s0 r0 r1 r2 z0 z1 z2; rintro e w2 ⟨rfl, hdf⟩; obtain ⟨c0, c1, c2, c3, c4, h0, s0, r0, r1, r2, z0, z1, z2⟩ := hdf.facts; obtain ⟨n1, n2, n3, n4⟩ := hdf.ne; have HD2 := Lib.hid hdf; clear hdf))
  go_region_held3 (fun w' => w'.cell? ⟨w.heap.size, 4, none⟩ = some (.int .i64 p) ∧ w'.cell? ⟨w1.heap.size, 0, none⟩ = some (.slice A1 b.length cp1)) (go_keep)
    (first
      | (go_at_call 19; (with_reducible refine (HC2.out w2.drew (HD2.out.below.trans ((HDr.out w2).mono HD2.out.below.size))).mono ?_); clear c0 c1 c2 c3 c4 h0 s0 r0 r1 r2 z0 z1 z2; rintro e w3 ⟨A3, l3, p3, rfl, ho, hbb⟩; have hdf := HD2.out.go ((HDr.out w2).trans hbb); obtain ⟨c0, c1, c2, c3, c4, h0, s0, r0, r1, r2, z0, z1, z2⟩ := hdf.facts; have HD3 := Lib.hid hdf; have HO := Lib.hid ho; clear hdf ho hbb))
  all_goals
    go_wp2_with fail
    obtain ⟨hbw, hpo⟩ := HD3.out.fin (.int .i64 0) (.int .i64 0) (.slice A3 l3 p3)
    exact bodyPost_ret (v := .tuple #[.agg #[.int .i64 0, .int .i64 0, .slice A3 l3 p3], .bool true, .slice A1 b.length cp1]) (by simp [results, Try.results7, go_sem, *]) rfl ⟨_, _, rfl, hpo _ _ _ HO.out, hpo _ _ _ HD3.out.own, hbw⟩

set_option maxHeartbeats 4000000 in
theorem do_read_end_all_past (k : Int) (s : ByteArray) (d : List UInt8) (p : Nat) (dv : Value) (b : List UInt8) (w : World) (A : Addr) (cb : Nat) (hd : ReadsB w dv d) (hb : ReadsB w (.slice (some A) b.length cb) b) (hbl : b.length ≤ 4096) (hs : s.size ≤ 140737488351232) (hm : MayC ⟨k, s, b.length, d, p⟩) (hk1 : (k == 1) = false) (hk2 : (k == 2) = false) (hk3 : (k == 3) = false) (hk4 : (k == 4) = false) (hk5 : (k == 5) = true)
    (hwl : IntKind.i64.wrap (b.length : Int) = (b.length : Int)) (hmm : (0 : Int) < (p : Int)) (hcb : b.length ≤ cb) (hcf : ¬ cb = b.length) :
    Calls Try.prog 7 #[.agg #[.int .i64 k, .string s, .int .i64 b.length, dv, .int .i64 p], .bool true, (.slice (some A) b.length cb)] w (DoPost ⟨0, 0, [], true, b⟩ w) := by
  have HCk : Hid (∀ W sv sb, DF w ⟨k, s, b.length, d, p⟩ dv true sv b w.heap.size (w.heap.size + 1) (w.heap.size + 2) sb W → Calls Try.prog 15 #[callV ⟨k, s, b.length, d, p⟩ dv] W fun e w' => e = .returned (.int .i64 0) ∧ DF w ⟨k, s, b.length, d, p⟩ dv true sv b w.heap.size (w.heap.size + 1) (w.heap.size + 2) sb w') := fun W sv sb h => by
    have := df_check h hd hs
    rwa [mayN_yes hm] at this
  have HCl := Lib.hid (df_clone ⟨k, s, b.length, d, p⟩ dv true (.slice (some A) b.length cb) b w hb (by omega))
  have HC2 : Hid (∀ W, Below w.heap.size w W → Calls Try.prog 19 #[(.slice (some (A.add b.length)) 0 (cb - b.length))] W fun e w' => ∃ A' n' c', e = .returned (.slice A' n' c') ∧ OwnB w.heap.size (.slice A' n' c') [] w' ∧ Below W.heap.size W w') := fun W hW => by
    refine (clone_any _ [] W (.inr ⟨_, _, rfl, fun j u hu => by simp [u8s] at hu⟩) (by simp)).mono ?_
    rintro e w' ⟨v', rfl, ho, hb2, _⟩
    obtain ⟨A', c', rfl⟩ := own_slice ho
    exact ⟨_, _, _, rfl, (OwnB.of_row ho).mono hW.size, hb2⟩
  obtain ⟨Ad, cd, rfl⟩ := hd.slice
  have g0 : IntKind.i64.wrap 0 = 0 := by decide
  have g6 : 0 < p := by omega
  have g2 : (b.length : Int) ≤ (cb : Int) := by omega
  have g4 : b.length ≤ cb := by omega
  have HDr : Hid (∀ W : World, Below W.heap.size W W.drew) := fun W => ⟨rfl, rfl, rfl, Nat.le_refl _, fun _ _ => rfl⟩
  clear hd hs hm hb hbl
  go_enter Try.func7, Try.ntmps7
  go_wp2_with (first
    | (go_at_call 19; (with_reducible refine HCl.out.mono ?_); rintro e w1 ⟨A1, cp1, rfl, hdf⟩; obtain ⟨c0, c1, c2, c3, c4, h0, s0, r0, r1, r2, z0, z1, z2⟩ := hdf.facts; have HD1 := Lib.hid hdf; clear hdf)
    | (go_at_call 15; refine (HCk.out _ _ _ HD1.out).mono ?_; clear c0 c1 c2 c3 c4 h0 s0 r0 r1 r2 z0 z1 z2; rintro e w2 ⟨rfl, hdf⟩; obtain ⟨c0, c1, c2, c3, c4, h0, s0, r0, r1, r2, z0, z1, z2⟩ := hdf.facts; obtain ⟨n1, n2, n3, n4⟩ := hdf.ne; have HD2 := Lib.hid hdf; clear hdf))
  go_region_held3 (fun w' => w'.cell? ⟨w.heap.size, 4, none⟩ = some (.int .i64 p) ∧ w'.cell? ⟨w1.heap.size, 0, none⟩ = some (.slice A1 b.length cp1)) (go_keep)
    (first
      | (go_at_call 19; (with_reducible refine (HC2.out w2.drew (HD2.out.below.trans ((HDr.out w2).mono HD2.out.below.size))).mono ?_); clear c0 c1 c2 c3 c4 h0 s0 r0 r1 r2 z0 z1 z2; rintro e w3 ⟨A3, l3, p3, rfl, ho, hbb⟩; have hdf := HD2.out.go ((HDr.out w2).trans hbb); obtain ⟨c0, c1, c2, c3, c4, h0, s0, r0, r1, r2, z0, z1, z2⟩ := hdf.facts; have HD3 := Lib.hid hdf; have HO := Lib.hid ho; clear hdf ho hbb))
  all_goals
    go_wp2_with fail
    obtain ⟨hbw, hpo⟩ := HD3.out.fin (.int .i64 0) (.int .i64 0) (.slice A3 l3 p3)
    exact bodyPost_ret (v := .tuple #[.agg #[.int .i64 0, .int .i64 0, .slice A3 l3 p3], .bool true, .slice A1 b.length cp1]) (by simp [results, Try.results7, go_sem, *]) rfl ⟨_, _, rfl, hpo _ _ _ HO.out, hpo _ _ _ HD3.out.own, hbw⟩

set_option maxHeartbeats 4000000 in
theorem do_read_end_all_full (k : Int) (s : ByteArray) (d : List UInt8) (p : Nat) (dv : Value) (b : List UInt8) (w : World) (A : Addr) (hd : ReadsB w dv d) (hb : ReadsB w (.slice (some A) b.length b.length) b) (hbl : b.length ≤ 4096) (hs : s.size ≤ 140737488351232) (hm : MayC ⟨k, s, b.length, d, p⟩) (hk1 : (k == 1) = false) (hk2 : (k == 2) = false) (hk3 : (k == 3) = false) (hk4 : (k == 4) = false) (hk5 : (k == 5) = true)
    (hwl : IntKind.i64.wrap (b.length : Int) = (b.length : Int)) (hmm : (0 : Int) < (p : Int)) :
    Calls Try.prog 7 #[.agg #[.int .i64 k, .string s, .int .i64 b.length, dv, .int .i64 p], .bool true, (.slice (some A) b.length b.length)] w (DoPost ⟨0, 0, [], true, b⟩ w) := by
  have HCk : Hid (∀ W sv sb, DF w ⟨k, s, b.length, d, p⟩ dv true sv b w.heap.size (w.heap.size + 1) (w.heap.size + 2) sb W → Calls Try.prog 15 #[callV ⟨k, s, b.length, d, p⟩ dv] W fun e w' => e = .returned (.int .i64 0) ∧ DF w ⟨k, s, b.length, d, p⟩ dv true sv b w.heap.size (w.heap.size + 1) (w.heap.size + 2) sb w') := fun W sv sb h => by
    have := df_check h hd hs
    rwa [mayN_yes hm] at this
  have HCl := Lib.hid (df_clone ⟨k, s, b.length, d, p⟩ dv true (.slice (some A) b.length b.length) b w hb (by omega))
  have HC2 : Hid (∀ W, Below w.heap.size w W → Calls Try.prog 19 #[(.slice (some A) 0 0)] W fun e w' => ∃ A' n' c', e = .returned (.slice A' n' c') ∧ OwnB w.heap.size (.slice A' n' c') [] w' ∧ Below W.heap.size W w') := fun W hW => by
    refine (clone_any _ [] W (.inr ⟨_, _, rfl, fun j u hu => by simp [u8s] at hu⟩) (by simp)).mono ?_
    rintro e w' ⟨v', rfl, ho, hb2, _⟩
    obtain ⟨A', c', rfl⟩ := own_slice ho
    exact ⟨_, _, _, rfl, (OwnB.of_row ho).mono hW.size, hb2⟩
  obtain ⟨Ad, cd, rfl⟩ := hd.slice
  have g0 : IntKind.i64.wrap 0 = 0 := by decide
  have g6 : 0 < p := by omega
  have HDr : Hid (∀ W : World, Below W.heap.size W W.drew) := fun W => ⟨rfl, rfl, rfl, Nat.le_refl _, fun _ _ => rfl⟩
  clear hd hs hm hb hbl
  go_enter Try.func7, Try.ntmps7
  go_wp2_with (first
    | (go_at_call 19; (with_reducible refine HCl.out.mono ?_); rintro e w1 ⟨A1, cp1, rfl, hdf⟩; obtain ⟨c0, c1, c2, c3, c4, h0, s0, r0, r1, r2, z0, z1, z2⟩ := hdf.facts; have HD1 := Lib.hid hdf; clear hdf)
    | (go_at_call 15; refine (HCk.out _ _ _ HD1.out).mono ?_; clear c0 c1 c2 c3 c4 h0 s0 r0 r1 r2 z0 z1 z2; rintro e w2 ⟨rfl, hdf⟩; obtain ⟨c0, c1, c2, c3, c4, h0, s0, r0, r1, r2, z0, z1, z2⟩ := hdf.facts; obtain ⟨n1, n2, n3, n4⟩ := hdf.ne; have HD2 := Lib.hid hdf; clear hdf))
  go_region_held3 (fun w' => w'.cell? ⟨w.heap.size, 4, none⟩ = some (.int .i64 p) ∧ w'.cell? ⟨w1.heap.size, 0, none⟩ = some (.slice A1 b.length cp1)) (go_keep)
    (first
      | (go_at_call 19; (with_reducible refine (HC2.out w2.drew (HD2.out.below.trans ((HDr.out w2).mono HD2.out.below.size))).mono ?_); clear c0 c1 c2 c3 c4 h0 s0 r0 r1 r2 z0 z1 z2; rintro e w3 ⟨A3, l3, p3, rfl, ho, hbb⟩; have hdf := HD2.out.go ((HDr.out w2).trans hbb); obtain ⟨c0, c1, c2, c3, c4, h0, s0, r0, r1, r2, z0, z1, z2⟩ := hdf.facts; have HD3 := Lib.hid hdf; have HO := Lib.hid ho; clear hdf ho hbb))
  all_goals
    go_wp2_with fail
    obtain ⟨hbw, hpo⟩ := HD3.out.fin (.int .i64 0) (.int .i64 0) (.slice A3 l3 p3)
    exact bodyPost_ret (v := .tuple #[.agg #[.int .i64 0, .int .i64 0, .slice A3 l3 p3], .bool true, .slice A1 b.length cp1]) (by simp [results, Try.results7, go_sem, *]) rfl ⟨_, _, rfl, hpo _ _ _ HO.out, hpo _ _ _ HD3.out.own, hbw⟩

set_option maxHeartbeats 4000000 in
theorem do_read_out_all_past (k : Int) (s : ByteArray) (q : Nat) (d : List UInt8) (p : Nat) (dv : Value) (b : List UInt8) (w : World) (A : Addr) (cb : Nat) (hd : ReadsB w dv d) (hb : ReadsB w (.slice (some A) b.length cb) b) (hbl : b.length ≤ 4096) (hs : s.size ≤ 140737488351232) (hm : MayC ⟨k, s, q, d, p⟩) (hk1 : (k == 1) = false) (hk2 : (k == 2) = false) (hk3 : (k == 3) = false) (hk4 : (k == 4) = false) (hk5 : (k == 5) = true)
    (hwl : IntKind.i64.wrap (b.length : Int) = (b.length : Int)) (hf : (b.length : Int) < (q : Int)) (hmm : (0 : Int) < (p : Int)) (hcb : b.length ≤ cb) (hcf : ¬ cb = b.length) :
    Calls Try.prog 7 #[.agg #[.int .i64 k, .string s, .int .i64 q, dv, .int .i64 p], .bool true, (.slice (some A) b.length cb)] w (DoPost ⟨0, 0, [], true, b⟩ w) := by
  have HCk : Hid (∀ W sv sb, DF w ⟨k, s, q, d, p⟩ dv true sv b w.heap.size (w.heap.size + 1) (w.heap.size + 2) sb W → Calls Try.prog 15 #[callV ⟨k, s, q, d, p⟩ dv] W fun e w' => e = .returned (.int .i64 0) ∧ DF w ⟨k, s, q, d, p⟩ dv true sv b w.heap.size (w.heap.size + 1) (w.heap.size + 2) sb w') := fun W sv sb h => by
    have := df_check h hd hs
    rwa [mayN_yes hm] at this
  have HCl := Lib.hid (df_clone ⟨k, s, q, d, p⟩ dv true (.slice (some A) b.length cb) b w hb (by omega))
  have HC2 : Hid (∀ W, Below w.heap.size w W → Calls Try.prog 19 #[(.slice (some (A.add b.length)) 0 (cb - b.length))] W fun e w' => ∃ A' n' c', e = .returned (.slice A' n' c') ∧ OwnB w.heap.size (.slice A' n' c') [] w' ∧ Below W.heap.size W w') := fun W hW => by
    refine (clone_any _ [] W (.inr ⟨_, _, rfl, fun j u hu => by simp [u8s] at hu⟩) (by simp)).mono ?_
    rintro e w' ⟨v', rfl, ho, hb2, _⟩
    obtain ⟨A', c', rfl⟩ := own_slice ho
    exact ⟨_, _, _, rfl, (OwnB.of_row ho).mono hW.size, hb2⟩
  obtain ⟨Ad, cd, rfl⟩ := hd.slice
  have g0 : IntKind.i64.wrap 0 = 0 := by decide
  have g5 : b.length < q := by omega
  have g6 : 0 < p := by omega
  have g2 : (b.length : Int) ≤ (cb : Int) := by omega
  have g4 : b.length ≤ cb := by omega
  have HDr : Hid (∀ W : World, Below W.heap.size W W.drew) := fun W => ⟨rfl, rfl, rfl, Nat.le_refl _, fun _ _ => rfl⟩
  clear hd hs hm hb hbl
  go_enter Try.func7, Try.ntmps7
  go_wp2_with (first
    | (go_at_call 19; (with_reducible refine HCl.out.mono ?_); rintro e w1 ⟨A1, cp1, rfl, hdf⟩; obtain ⟨c0, c1, c2, c3, c4, h0, s0, r0, r1, r2, z0, z1, z2⟩ := hdf.facts; have HD1 := Lib.hid hdf; clear hdf)
    | (go_at_call 15; refine (HCk.out _ _ _ HD1.out).mono ?_; clear c0 c1 c2 c3 c4 h0 s0 r0 r1 r2 z0 z1 z2; rintro e w2 ⟨rfl, hdf⟩; obtain ⟨c0, c1, c2, c3, c4, h0, s0, r0, r1, r2, z0, z1, z2⟩ := hdf.facts; obtain ⟨n1, n2, n3, n4⟩ := hdf.ne; have HD2 := Lib.hid hdf; clear hdf))
  go_region_held3 (fun w' => w'.cell? ⟨w.heap.size, 4, none⟩ = some (.int .i64 p) ∧ w'.cell? ⟨w1.heap.size, 0, none⟩ = some (.slice A1 b.length cp1)) (go_keep)
    (first
      | (go_at_call 19; (with_reducible refine (HC2.out w2.drew (HD2.out.below.trans ((HDr.out w2).mono HD2.out.below.size))).mono ?_); clear c0 c1 c2 c3 c4 h0 s0 r0 r1 r2 z0 z1 z2; rintro e w3 ⟨A3, l3, p3, rfl, ho, hbb⟩; have hdf := HD2.out.go ((HDr.out w2).trans hbb); obtain ⟨c0, c1, c2, c3, c4, h0, s0, r0, r1, r2, z0, z1, z2⟩ := hdf.facts; have HD3 := Lib.hid hdf; have HO := Lib.hid ho; clear hdf ho hbb))
  all_goals
    go_wp2_with fail
    obtain ⟨hbw, hpo⟩ := HD3.out.fin (.int .i64 0) (.int .i64 0) (.slice A3 l3 p3)
    exact bodyPost_ret (v := .tuple #[.agg #[.int .i64 0, .int .i64 0, .slice A3 l3 p3], .bool true, .slice A1 b.length cp1]) (by simp [results, Try.results7, go_sem, *]) rfl ⟨_, _, rfl, hpo _ _ _ HO.out, hpo _ _ _ HD3.out.own, hbw⟩

set_option maxHeartbeats 4000000 in
theorem do_read_out_all_full (k : Int) (s : ByteArray) (q : Nat) (d : List UInt8) (p : Nat) (dv : Value) (b : List UInt8) (w : World) (A : Addr) (hd : ReadsB w dv d) (hb : ReadsB w (.slice (some A) b.length b.length) b) (hbl : b.length ≤ 4096) (hs : s.size ≤ 140737488351232) (hm : MayC ⟨k, s, q, d, p⟩) (hk1 : (k == 1) = false) (hk2 : (k == 2) = false) (hk3 : (k == 3) = false) (hk4 : (k == 4) = false) (hk5 : (k == 5) = true)
    (hwl : IntKind.i64.wrap (b.length : Int) = (b.length : Int)) (hf : (b.length : Int) < (q : Int)) (hmm : (0 : Int) < (p : Int)) :
    Calls Try.prog 7 #[.agg #[.int .i64 k, .string s, .int .i64 q, dv, .int .i64 p], .bool true, (.slice (some A) b.length b.length)] w (DoPost ⟨0, 0, [], true, b⟩ w) := by
  have HCk : Hid (∀ W sv sb, DF w ⟨k, s, q, d, p⟩ dv true sv b w.heap.size (w.heap.size + 1) (w.heap.size + 2) sb W → Calls Try.prog 15 #[callV ⟨k, s, q, d, p⟩ dv] W fun e w' => e = .returned (.int .i64 0) ∧ DF w ⟨k, s, q, d, p⟩ dv true sv b w.heap.size (w.heap.size + 1) (w.heap.size + 2) sb w') := fun W sv sb h => by
    have := df_check h hd hs
    rwa [mayN_yes hm] at this
  have HCl := Lib.hid (df_clone ⟨k, s, q, d, p⟩ dv true (.slice (some A) b.length b.length) b w hb (by omega))
  have HC2 : Hid (∀ W, Below w.heap.size w W → Calls Try.prog 19 #[(.slice (some A) 0 0)] W fun e w' => ∃ A' n' c', e = .returned (.slice A' n' c') ∧ OwnB w.heap.size (.slice A' n' c') [] w' ∧ Below W.heap.size W w') := fun W hW => by
    refine (clone_any _ [] W (.inr ⟨_, _, rfl, fun j u hu => by simp [u8s] at hu⟩) (by simp)).mono ?_
    rintro e w' ⟨v', rfl, ho, hb2, _⟩
    obtain ⟨A', c', rfl⟩ := own_slice ho
    exact ⟨_, _, _, rfl, (OwnB.of_row ho).mono hW.size, hb2⟩
  obtain ⟨Ad, cd, rfl⟩ := hd.slice
  have g0 : IntKind.i64.wrap 0 = 0 := by decide
  have g5 : b.length < q := by omega
  have g6 : 0 < p := by omega
  have HDr : Hid (∀ W : World, Below W.heap.size W W.drew) := fun W => ⟨rfl, rfl, rfl, Nat.le_refl _, fun _ _ => rfl⟩
  clear hd hs hm hb hbl
  go_enter Try.func7, Try.ntmps7
  go_wp2_with (first
    | (go_at_call 19; (with_reducible refine HCl.out.mono ?_); rintro e w1 ⟨A1, cp1, rfl, hdf⟩; obtain ⟨c0, c1, c2, c3, c4, h0, s0, r0, r1, r2, z0, z1, z2⟩ := hdf.facts; have HD1 := Lib.hid hdf; clear hdf)
    | (go_at_call 15; refine (HCk.out _ _ _ HD1.out).mono ?_; clear c0 c1 c2 c3 c4 h0 s0 r0 r1 r2 z0 z1 z2; rintro e w2 ⟨rfl, hdf⟩; obtain ⟨c0, c1, c2, c3, c4, h0, s0, r0, r1, r2, z0, z1, z2⟩ := hdf.facts; obtain ⟨n1, n2, n3, n4⟩ := hdf.ne; have HD2 := Lib.hid hdf; clear hdf))
  go_region_held3 (fun w' => w'.cell? ⟨w.heap.size, 4, none⟩ = some (.int .i64 p) ∧ w'.cell? ⟨w1.heap.size, 0, none⟩ = some (.slice A1 b.length cp1)) (go_keep)
    (first
      | (go_at_call 19; (with_reducible refine (HC2.out w2.drew (HD2.out.below.trans ((HDr.out w2).mono HD2.out.below.size))).mono ?_); clear c0 c1 c2 c3 c4 h0 s0 r0 r1 r2 z0 z1 z2; rintro e w3 ⟨A3, l3, p3, rfl, ho, hbb⟩; have hdf := HD2.out.go ((HDr.out w2).trans hbb); obtain ⟨c0, c1, c2, c3, c4, h0, s0, r0, r1, r2, z0, z1, z2⟩ := hdf.facts; have HD3 := Lib.hid hdf; have HO := Lib.hid ho; clear hdf ho hbb))
  all_goals
    go_wp2_with fail
    obtain ⟨hbw, hpo⟩ := HD3.out.fin (.int .i64 0) (.int .i64 0) (.slice A3 l3 p3)
    exact bodyPost_ret (v := .tuple #[.agg #[.int .i64 0, .int .i64 0, .slice A3 l3 p3], .bool true, .slice A1 b.length cp1]) (by simp [results, Try.results7, go_sem, *]) rfl ⟨_, _, rfl, hpo _ _ _ HO.out, hpo _ _ _ HD3.out.own, hbw⟩

set_option maxHeartbeats 4000000 in
theorem do_read_nil_zero_all (k : Int) (s : ByteArray) (d : List UInt8) (p : Nat) (dv : Value) (w : World) (hd : ReadsB w dv d) (hs : s.size ≤ 140737488351232) (hm : MayC ⟨k, s, 0, d, p⟩) (hk1 : (k == 1) = false) (hk2 : (k == 2) = false) (hk3 : (k == 3) = false) (hk4 : (k == 4) = false) (hk5 : (k == 5) = true) (hmm : (0 : Int) < (p : Int)) :
    Calls Try.prog 7 #[.agg #[.int .i64 k, .string s, .int .i64 0, dv, .int .i64 p], .bool true, (.slice none 0 0)] w (DoPost ⟨0, 0, [], true, []⟩ w) := by
  have HCk : Hid (∀ W sv sb, DF w ⟨k, s, 0, d, p⟩ dv true sv [] w.heap.size (w.heap.size + 1) (w.heap.size + 2) sb W → Calls Try.prog 15 #[callV ⟨k, s, 0, d, p⟩ dv] W fun e w' => e = .returned (.int .i64 0) ∧ DF w ⟨k, s, 0, d, p⟩ dv true sv [] w.heap.size (w.heap.size + 1) (w.heap.size + 2) sb w') := fun W sv sb h => by
    have := df_check h hd hs
    rwa [mayN_yes hm] at this
  have hCl := df_clone ⟨k, s, 0, d, p⟩ dv true (.slice none 0 0) [] w (.inl ⟨rfl, rfl⟩) (by simp)
  simp only [List.length_nil] at hCl
  have HCl := Lib.hid hCl
  clear hCl
  have HC2 : Hid (∀ W, Below w.heap.size w W → Calls Try.prog 19 #[(.slice none 0 0)] W fun e w' => ∃ A' n' c', e = .returned (.slice A' n' c') ∧ OwnB w.heap.size (.slice A' n' c') [] w' ∧ Below W.heap.size W w') := fun W hW => by
    refine (clone_any _ [] W (.inl ⟨rfl, rfl⟩) (by simp)).mono ?_
    rintro e w' ⟨v', rfl, ho, hb2, _⟩
    obtain ⟨A', c', rfl⟩ := own_slice ho
    exact ⟨_, _, _, rfl, (OwnB.of_row ho).mono hW.size, hb2⟩
  obtain ⟨Ad, cd, rfl⟩ := hd.slice
  have g0 : IntKind.i64.wrap 0 = 0 := by decide
  have g6 : 0 < p := by omega
  have HDr : Hid (∀ W : World, Below W.heap.size W W.drew) := fun W => ⟨rfl, rfl, rfl, Nat.le_refl _, fun _ _ => rfl⟩
  clear hd hs hm
  go_enter Try.func7, Try.ntmps7
  go_wp2_with (first
    | (go_at_call 19; (with_reducible refine HCl.out.mono ?_); rintro e w1 ⟨A1, cp1, rfl, hdf⟩; obtain ⟨c0, c1, c2, c3, c4, h0, s0, r0, r1, r2, z0, z1, z2⟩ := hdf.facts; have HD1 := Lib.hid hdf; clear hdf)
    | (go_at_call 15; refine (HCk.out _ _ _ HD1.out).mono ?_; clear c0 c1 c2 c3 c4 h0 s0 r0 r1 r2 z0 z1 z2; rintro e w2 ⟨rfl, hdf⟩; obtain ⟨c0, c1, c2, c3, c4, h0, s0, r0, r1, r2, z0, z1, z2⟩ := hdf.facts; obtain ⟨n1, n2, n3, n4⟩ := hdf.ne; have HD2 := Lib.hid hdf; clear hdf))
  go_region_held3 (fun w' => w'.cell? ⟨w.heap.size, 4, none⟩ = some (.int .i64 p) ∧ w'.cell? ⟨w1.heap.size, 0, none⟩ = some (.slice A1 0 cp1)) (go_keep)
    (first
      | (go_at_call 19; (with_reducible refine (HC2.out w2.drew (HD2.out.below.trans ((HDr.out w2).mono HD2.out.below.size))).mono ?_); clear c0 c1 c2 c3 c4 h0 s0 r0 r1 r2 z0 z1 z2; rintro e w3 ⟨A3, l3, p3, rfl, ho, hbb⟩; have hdf := HD2.out.go ((HDr.out w2).trans hbb); obtain ⟨c0, c1, c2, c3, c4, h0, s0, r0, r1, r2, z0, z1, z2⟩ := hdf.facts; have HD3 := Lib.hid hdf; have HO := Lib.hid ho; clear hdf ho hbb))
  all_goals
    go_wp2_with fail
    obtain ⟨hbw, hpo⟩ := HD3.out.fin (.int .i64 0) (.int .i64 0) (.slice A3 l3 p3)
    exact bodyPost_ret (v := .tuple #[.agg #[.int .i64 0, .int .i64 0, .slice A3 l3 p3], .bool true, .slice A1 0 cp1]) (by simp [results, Try.results7, go_sem, *]) rfl ⟨_, _, rfl, hpo _ _ _ HO.out, hpo _ _ _ HD3.out.own, hbw⟩

set_option maxHeartbeats 4000000 in
theorem do_read_nil_some_all (k : Int) (s : ByteArray) (q : Nat) (d : List UInt8) (p : Nat) (dv : Value) (w : World) (hd : ReadsB w dv d) (hs : s.size ≤ 140737488351232) (hm : MayC ⟨k, s, q, d, p⟩) (hk1 : (k == 1) = false) (hk2 : (k == 2) = false) (hk3 : (k == 3) = false) (hk4 : (k == 4) = false) (hk5 : (k == 5) = true) (hf : (0 : Int) < (q : Int)) (hmm : (0 : Int) < (p : Int)) :
    Calls Try.prog 7 #[.agg #[.int .i64 k, .string s, .int .i64 q, dv, .int .i64 p], .bool true, (.slice none 0 0)] w (DoPost ⟨0, 0, [], true, []⟩ w) := by
  have HCk : Hid (∀ W sv sb, DF w ⟨k, s, q, d, p⟩ dv true sv [] w.heap.size (w.heap.size + 1) (w.heap.size + 2) sb W → Calls Try.prog 15 #[callV ⟨k, s, q, d, p⟩ dv] W fun e w' => e = .returned (.int .i64 0) ∧ DF w ⟨k, s, q, d, p⟩ dv true sv [] w.heap.size (w.heap.size + 1) (w.heap.size + 2) sb w') := fun W sv sb h => by
    have := df_check h hd hs
    rwa [mayN_yes hm] at this
  have hCl := df_clone ⟨k, s, q, d, p⟩ dv true (.slice none 0 0) [] w (.inl ⟨rfl, rfl⟩) (by simp)
  simp only [List.length_nil] at hCl
  have HCl := Lib.hid hCl
  clear hCl
  have HC2 : Hid (∀ W, Below w.heap.size w W → Calls Try.prog 19 #[(.slice none 0 0)] W fun e w' => ∃ A' n' c', e = .returned (.slice A' n' c') ∧ OwnB w.heap.size (.slice A' n' c') [] w' ∧ Below W.heap.size W w') := fun W hW => by
    refine (clone_any _ [] W (.inl ⟨rfl, rfl⟩) (by simp)).mono ?_
    rintro e w' ⟨v', rfl, ho, hb2, _⟩
    obtain ⟨A', c', rfl⟩ := own_slice ho
    exact ⟨_, _, _, rfl, (OwnB.of_row ho).mono hW.size, hb2⟩
  obtain ⟨Ad, cd, rfl⟩ := hd.slice
  have g0 : IntKind.i64.wrap 0 = 0 := by decide
  have g5 : 0 < q := by omega
  have g6 : 0 < p := by omega
  have HDr : Hid (∀ W : World, Below W.heap.size W W.drew) := fun W => ⟨rfl, rfl, rfl, Nat.le_refl _, fun _ _ => rfl⟩
  clear hd hs hm
  go_enter Try.func7, Try.ntmps7
  go_wp2_with (first
    | (go_at_call 19; (with_reducible refine HCl.out.mono ?_); rintro e w1 ⟨A1, cp1, rfl, hdf⟩; obtain ⟨c0, c1, c2, c3, c4, h0, s0, r0, r1, r2, z0, z1, z2⟩ := hdf.facts; have HD1 := Lib.hid hdf; clear hdf)
    | (go_at_call 15; refine (HCk.out _ _ _ HD1.out).mono ?_; clear c0 c1 c2 c3 c4 h0 s0 r0 r1 r2 z0 z1 z2; rintro e w2 ⟨rfl, hdf⟩; obtain ⟨c0, c1, c2, c3, c4, h0, s0, r0, r1, r2, z0, z1, z2⟩ := hdf.facts; obtain ⟨n1, n2, n3, n4⟩ := hdf.ne; have HD2 := Lib.hid hdf; clear hdf))
  go_region_held3 (fun w' => w'.cell? ⟨w.heap.size, 4, none⟩ = some (.int .i64 p) ∧ w'.cell? ⟨w1.heap.size, 0, none⟩ = some (.slice A1 0 cp1)) (go_keep)
    (first
      | (go_at_call 19; (with_reducible refine (HC2.out w2.drew (HD2.out.below.trans ((HDr.out w2).mono HD2.out.below.size))).mono ?_); clear c0 c1 c2 c3 c4 h0 s0 r0 r1 r2 z0 z1 z2; rintro e w3 ⟨A3, l3, p3, rfl, ho, hbb⟩; have hdf := HD2.out.go ((HDr.out w2).trans hbb); obtain ⟨c0, c1, c2, c3, c4, h0, s0, r0, r1, r2, z0, z1, z2⟩ := hdf.facts; have HD3 := Lib.hid hdf; have HO := Lib.hid ho; clear hdf ho hbb))
  all_goals
    go_wp2_with fail
    obtain ⟨hbw, hpo⟩ := HD3.out.fin (.int .i64 0) (.int .i64 0) (.slice A3 l3 p3)
    exact bodyPost_ret (v := .tuple #[.agg #[.int .i64 0, .int .i64 0, .slice A3 l3 p3], .bool true, .slice A1 0 cp1]) (by simp [results, Try.results7, go_sem, *]) rfl ⟨_, _, rfl, hpo _ _ _ HO.out, hpo _ _ _ HD3.out.own, hbw⟩
end Go.Proofs.Ytbbbdhpihcbmmaa
