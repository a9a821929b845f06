/- The walk of the law's 'does': deliver. -/
import Derived.Test.YtlieepbmmfdeoaaActs8
namespace Go.Proofs.Ytlieepbmmfdeoaa
open Go.RowKit Own

theorem DB.set3 {w0 w : World} {fb mb n rb wb ob : Nat} {f : Value → Option Value} {L : List (Msg × Value)} {ML : List Msg} {PP : List (Int × Int)} {p q r u : Value} {l : List UInt8} (h : DB w0 fb mb n f L rb ML PP wb #[p, q, r] u l w) (x y z : Value) :
    DB w0 fb mb n f L rb ML PP wb #[x, y, z] u l (((w.setCell ⟨wb, 0, none⟩ x).setCell ⟨wb, 1, none⟩ y).setCell ⟨wb, 2, none⟩ z) ∧
      ∀ cur, w.heap[ob]? = some (.cells cur 28 (0, 0)) → (((w.setCell ⟨wb, 0, none⟩ x).setCell ⟨wb, 1, none⟩ y).setCell ⟨wb, 2, none⟩ z).heap[ob]? = some (.cells cur 28 (0, 0)) := by
  refine ⟨((h.set 0 x).set 1 y).set 2 z, fun cur hc => ?_⟩
  have hne : ob ≠ wb := by rintro rfl; have := h.want; rw [hc] at this; cases this
  rw [Below.heap_setCell _ _ _ _ (by simpa using hne), Below.heap_setCell _ _ _ _ (by simpa using hne), Below.heap_setCell _ _ _ _ (by simpa using hne)]
  exact hc
theorem conv_none (w : World) : (convert 26 9 (.slice none 0 0)).run Try.prog w = .ok (.string ⟨#[]⟩) w := conv_reads (l := []) (.inl ⟨rfl, rfl⟩)

set_option maxHeartbeats 4000000 in
set_option maxRecDepth 100000 in
theorem does_deliver_in (w0 : World) (fb mb rb m : Nat) (k : Nat) (b : Int) (Av : Option Addr) (nv cv : Nat) (w : World) (hm : m ≤ 600)
    (n : Nat) (f : Value → Option Value) (L : List (Msg × Value)) (ML : List Msg) (PP : List (Int × Int)) (hJ : JB w0 fb mb n f L rb ML PP w.heap.size 1 k b (.slice Av nv cv) (w.alloc (.cells #[.int .i64 1, .int .i64 k, .int .i64 b, .slice Av nv cv] 28))) (hL : L.map (·.1) = ML) (hP : PKeys f PP) (hl1 : ML.length ≤ m) (hl2 : PP.length ≤ m) (hk : k < ML.length) :
    Calls Try.prog 15 #[.pointer (some ⟨fb, 0, none⟩), .pointer (some ⟨rb, 0, none⟩), .agg #[.int .i64 1, .int .i64 k, .int .i64 b, .slice Av nv cv]] w (DoesPost w0 fb mb rb (m + 1)) := by
  obtain ⟨Am, cm, hm0⟩ := hJ.m0
  have k0 := hJ.c0
  have k1 := hJ.c1
  have hlen : L.length = ML.length := by rw [← hL, List.length_map]
  have hml : (ML.length : Int) ≤ 600 := by omega
  have c1 : decide (0 ≤ (k : Int)) = true := decide_eq_true (by omega)
  have c2 : decide ((k : Int) < (ML.length : Int)) = true := decide_eq_true (by omega)
  have hLk : (L[k]'(by omega)).1 = ML[k]'hk := by subst hL; simp
  have HD := Lib.hid (fun nq => jb_deliver (hJ.go (bel_drewN _ nq)) k (by omega) (by omega))
  rw [hLk, hP.parted] at HD
  have HJ := Lib.hid (fun nq => hJ.go (bel_drewN _ nq))
  have HF : Hid ((L.eraseIdx k).map (·.1) = ML.eraseIdx k ∧ PKeys f PP ∧ (ML.eraseIdx k).length ≤ m + 1 ∧ PP.length ≤ m + 1) := ⟨by rw [map_erase, hL], hP, by have := List.length_eraseIdx_le ML k; omega, by omega⟩
  have HRow : Hid (∀ L' wb cs u l W, DB w0 fb mb n f L' rb ML PP wb cs u l W → _) := fun L' wb cs u l W hj => DB.row hj k hk
  have HOut : Hid (∀ L' wb cs u l W, DB w0 fb mb n f L' rb ML PP wb cs u l W → _) := fun L' wb cs u l W hj => DB.out hj k hk (by omega)
  have HPar : Hid (PP.length ≤ 16384) := by show _ ≤ _; omega
  generalize ML[k]'hk = mg at *
  obtain ⟨fr, to, bs⟩ := mg
  simp only [] at HD HRow
  clear hLk hJ hL hP hl1 hl2 hm hlen
  go_enter Try.func15, Try.ntmps15
  go_wp2_with fail
  go_quiet (fail)
  have HDq := Lib.hid (HD.out nq)
  have hJW := HJ.out nq
  clear HD hm0 k0 k1 HJ
  generalize (w.alloc (Obj.cells #[Value.int IntKind.i64 1, Value.int IntKind.i64 k, Value.int IntKind.i64 b, Value.slice Av nv cv] 28)).drewN nq = W at *
  have k0 := hJW.c0
  have k1 := hJW.c1
  clear hJW
  cases hpp : partedM PP fr to with
  | false =>
    rw [hpp] at HDq
    simp only [deliverV, if_false, Bool.false_eq_true] at HDq
    have HPP := Lib.hid hpp
    clear hpp
    go_wp2_with (go_at_call 9; refine HDq.out.mono ?_; rintro e w3 ⟨u, rfl, hu, hj⟩; have hdb := hj.db (cs := #[.int .i64 0, .int .i64 0, .string ⟨#[]⟩]) hu; have hjg := hj.go (((Below.refl w3.heap.size w3).alloc (Nat.le_refl _) (.cells #[.int .i64 0, .int .i64 0, .string ⟨#[]⟩] 32))); clear hj hu)
    generalize w3.alloc (.cells #[.int .i64 0, .int .i64 0, .string ⟨#[]⟩] 32) = X at *
    generalize w3.heap.size = wb at *
    have q1 := hjg.c1
    obtain ⟨g, c, r0, r1, r2, r3⟩ := HRow.out _ _ _ _ _ _ hdb
    have s0 := hdb.wc 0 _ rfl
    have s1 := hdb.wc 1 _ rfl
    have s2 := hdb.wc 2 _ rfl
    have z0 := frozen_of_block hdb.want 0
    have z1 := frozen_of_block hdb.want 1
    have z2 := frozen_of_block hdb.want 2
    have HDB := Lib.hid hdb
    have HJG := Lib.hid hjg
    clear hdb hjg
    go_region
    all_goals
      obtain ⟨hS, hbx⟩ := HDB.out.set3 (ob := w.heap.size) (.int .i64 fr) (.int .i64 to) (.string ⟨bs.toArray⟩)
      have hS := hS.go (w' := (((X.setCell ⟨wb, 0, none⟩ (.int .i64 fr)).setCell ⟨wb, 1, none⟩ (.int .i64 to)).setCell ⟨wb, 2, none⟩ (.string ⟨bs.toArray⟩)).drew) ⟨rfl, rfl, rfl, Nat.le_refl _, fun _ _ => rfl⟩
      have hb2 := hbx _ HJG.out.box
      have q1' : (((X.setCell ⟨wb, 0, none⟩ (.int .i64 fr)).setCell ⟨wb, 1, none⟩ (.int .i64 to)).setCell ⟨wb, 2, none⟩ (.string ⟨bs.toArray⟩)).drew.cell? ⟨w.heap.size, 1, none⟩ = some (.int .i64 k) := by
        rw [show (((X.setCell ⟨wb, 0, none⟩ (.int .i64 fr)).setCell ⟨wb, 1, none⟩ (.int .i64 to)).setCell ⟨wb, 2, none⟩ (.string ⟨bs.toArray⟩)).drew.cell? ⟨w.heap.size, 1, none⟩ = (((X.setCell ⟨wb, 0, none⟩ (.int .i64 fr)).setCell ⟨wb, 1, none⟩ (.int .i64 to)).setCell ⟨wb, 2, none⟩ (.string ⟨bs.toArray⟩)).cell? ⟨w.heap.size, 1, none⟩ from rfl, cell_of_row _ _ 1 _ _ _ hb2]; rfl
      have HO2 := Lib.hid (HOut.out _ _ _ _ _ _ hS)
      clear hS hbx hb2 q1 r0 r1 r2 r3 s0 s1 s2 z0 z1 z2 HDB HJG HOut HRow HDq k0 k1
      generalize (((X.setCell ⟨wb, 0, none⟩ (.int .i64 fr)).setCell ⟨wb, 1, none⟩ (.int .i64 to)).setCell ⟨wb, 2, none⟩ (.string ⟨bs.toArray⟩)).drew = Y at *
      have hE := fun W => eq_msg fr to bs W
      go_wp2_with (first
        | (go_at_call 25; refine HO2.out.mono ?_; rintro e w4 ⟨rfl, hd4⟩; have t0 := hd4.wc 0 _ rfl; have t1 := hd4.wc 1 _ rfl; have HP4 := Lib.hid (hd4.parted fr to HPar.out); rw [HPP.out] at HP4; clear hd4)
        | (go_at_call 18; refine HP4.out.mono ?_; rintro e w5 ⟨rfl, hd5⟩; have t0 := hd5.wc 0 _ rfl; have t1 := hd5.wc 1 _ rfl; have t2 := hd5.wc 2 _ rfl; have hcv := hd5.conv; have HD5 := Lib.hid hd5; clear hd5))
      go_ret
      exact ⟨rfl, HD5.out.js HF.out.1 HF.out.2.1 HF.out.2.2.1 HF.out.2.2.2⟩
  | true =>
    rw [hpp] at HDq
    simp only [deliverV, if_true] at HDq
    have HPP := Lib.hid hpp
    clear hpp
    go_wp2_with (go_at_call 9; refine HDq.out.mono ?_; rintro e w3 ⟨u, rfl, _, hj⟩; have hdb := hj.db (cs := #[.int .i64 0, .int .i64 0, .string ⟨#[]⟩]) (u := .slice none 0 0) (l := []) ⟨0, World.ownsRow_nil _ _ _ _⟩; have hjg := hj.go (((Below.refl w3.heap.size w3).alloc (Nat.le_refl _) (.cells #[.int .i64 0, .int .i64 0, .string ⟨#[]⟩] 32))); clear hj)
    generalize w3.alloc (.cells #[.int .i64 0, .int .i64 0, .string ⟨#[]⟩] 32) = X at *
    generalize w3.heap.size = wb at *
    have q1 := hjg.c1
    obtain ⟨g, c, r0, r1, r2, r3⟩ := HRow.out _ _ _ _ _ _ hdb
    have s0 := hdb.wc 0 _ rfl
    have s1 := hdb.wc 1 _ rfl
    have s2 := hdb.wc 2 _ rfl
    have z0 := frozen_of_block hdb.want 0
    have z1 := frozen_of_block hdb.want 1
    have z2 := frozen_of_block hdb.want 2
    have HDB := Lib.hid hdb
    have HJG := Lib.hid hjg
    clear hdb hjg
    go_region
    all_goals
      obtain ⟨hS, hbx⟩ := HDB.out.set3 (ob := w.heap.size) (.int .i64 fr) (.int .i64 to) (.string ⟨bs.toArray⟩)
      have hS := hS.go (w' := (((X.setCell ⟨wb, 0, none⟩ (.int .i64 fr)).setCell ⟨wb, 1, none⟩ (.int .i64 to)).setCell ⟨wb, 2, none⟩ (.string ⟨bs.toArray⟩)).drew) ⟨rfl, rfl, rfl, Nat.le_refl _, fun _ _ => rfl⟩
      have hb2 := hbx _ HJG.out.box
      have q1' : (((X.setCell ⟨wb, 0, none⟩ (.int .i64 fr)).setCell ⟨wb, 1, none⟩ (.int .i64 to)).setCell ⟨wb, 2, none⟩ (.string ⟨bs.toArray⟩)).drew.cell? ⟨w.heap.size, 1, none⟩ = some (.int .i64 k) := by
        rw [show (((X.setCell ⟨wb, 0, none⟩ (.int .i64 fr)).setCell ⟨wb, 1, none⟩ (.int .i64 to)).setCell ⟨wb, 2, none⟩ (.string ⟨bs.toArray⟩)).drew.cell? ⟨w.heap.size, 1, none⟩ = (((X.setCell ⟨wb, 0, none⟩ (.int .i64 fr)).setCell ⟨wb, 1, none⟩ (.int .i64 to)).setCell ⟨wb, 2, none⟩ (.string ⟨bs.toArray⟩)).cell? ⟨w.heap.size, 1, none⟩ from rfl, cell_of_row _ _ 1 _ _ _ hb2]; rfl
      have HO2 := Lib.hid (HOut.out _ _ _ _ _ _ hS)
      clear hS hbx hb2 q1 r0 r1 r2 r3 s0 s1 s2 z0 z1 z2 HDB HJG HOut HRow HDq k0 k1
      generalize (((X.setCell ⟨wb, 0, none⟩ (.int .i64 fr)).setCell ⟨wb, 1, none⟩ (.int .i64 to)).setCell ⟨wb, 2, none⟩ (.string ⟨bs.toArray⟩)).drew = Y at *
      have hE := fun W => eq_msg 0 0 [] W
      have hcv := conv_none
      go_wp2_with (first
        | (go_at_call 25; refine HO2.out.mono ?_; rintro e w4 ⟨rfl, hd4⟩; have t0 := hd4.wc 0 _ rfl; have t1 := hd4.wc 1 _ rfl; have HP4 := Lib.hid (hd4.parted fr to HPar.out); rw [HPP.out] at HP4; clear hd4)
        | (go_at_call 18; refine HP4.out.mono ?_; rintro e w5 ⟨rfl, hd5⟩; have t0 := hd5.wc 0 _ rfl; have t1 := hd5.wc 1 _ rfl; have t2 := hd5.wc 2 _ rfl; have z0 := frozen_of_block hd5.want 0; have z1 := frozen_of_block hd5.want 1; have z2 := frozen_of_block hd5.want 2; have HD5 := Lib.hid (hd5.set3 (ob := w.heap.size) (.int .i64 0) (.int .i64 0) (.string ⟨#[]⟩)).1; clear hd5))
      go_ret
      exact ⟨rfl, HD5.out.js HF.out.1 HF.out.2.1 HF.out.2.2.1 HF.out.2.2.2⟩

set_option maxHeartbeats 4000000 in
set_option maxRecDepth 100000 in
theorem does_deliver_out (w0 : World) (fb mb rb m : Nat) (a b : Int) (Av : Option Addr) (nv cv : Nat) (w : World) (hm : m ≤ 600)
    (n : Nat) (f : Value → Option Value) (L : List (Msg × Value)) (ML : List Msg) (PP : List (Int × Int)) (hJ : JB w0 fb mb n f L rb ML PP w.heap.size 1 a b (.slice Av nv cv) (w.alloc (.cells #[.int .i64 1, .int .i64 a, .int .i64 b, .slice Av nv cv] 28))) (hL : L.map (·.1) = ML) (hP : PKeys f PP) (hl1 : ML.length ≤ m) (hl2 : PP.length ≤ m) (hout : ¬ (0 ≤ a ∧ a < (ML.length : Int))) :
    Calls Try.prog 15 #[.pointer (some ⟨fb, 0, none⟩), .pointer (some ⟨rb, 0, none⟩), .agg #[.int .i64 1, .int .i64 a, .int .i64 b, .slice Av nv cv]] w (DoesPost w0 fb mb rb (m + 1)) := by
  obtain ⟨Am, cm, hm0⟩ := hJ.m0
  have k0 := hJ.c0
  have k1 := hJ.c1
  have hlen : L.length = ML.length := by rw [← hL, List.length_map]
  have hml : (ML.length : Int) ≤ 600 := by omega
  have hcase : decide (0 ≤ a) = false ∨ (decide (0 ≤ a) = true ∧ decide (a < (ML.length : Int)) = false) := by
    simp only [decide_eq_true_eq, decide_eq_false_iff_not]; omega
  have HD := Lib.hid (fun nq => jb_deliver_out (hJ.go (bel_drewN _ nq)) a (by omega))
  have HF : Hid (L.map (·.1) = ML ∧ PKeys f PP ∧ ML.length ≤ m + 1 ∧ PP.length ≤ m + 1) := ⟨hL, hP, by omega, by omega⟩
  clear hJ hL hP hl1 hl2 hm hlen hout
  rcases hcase with c1 | ⟨c1, c2⟩
  all_goals
    go_enter Try.func15, Try.ntmps15
    go_wp2_with fail
    go_quiet (fail)
    have hE := fun W => eq_msg 0 0 [] W
    have hcv := conv_none
    go_wp2_with (go_at_call 9; refine (HD.out _).mono ?_; rintro e w3 ⟨rfl, hj⟩; have hdb := hj.db (cs := #[.int .i64 0, .int .i64 0, .string ⟨#[]⟩]) (u := .slice none 0 0) (l := []) ⟨0, World.ownsRow_nil _ _ _ _⟩; have t0 := hdb.wc 0 _ rfl; have t1 := hdb.wc 1 _ rfl; have t2 := hdb.wc 2 _ rfl; have HDB := Lib.hid hdb; clear hj hdb)
    go_ret
    exact ⟨rfl, HDB.out.js HF.out.1 HF.out.2.1 HF.out.2.2.1 HF.out.2.2.2⟩

theorem does_deliver (w0 : World) (fb mb rb m : Nat) (a b : Int) (Av : Option Addr) (nv cv : Nat) (w : World) (h : JS w0 fb mb rb m w) (hm : m ≤ 600) :
    Calls Try.prog 15 #[.pointer (some ⟨fb, 0, none⟩), .pointer (some ⟨rb, 0, none⟩), .agg #[.int .i64 1, .int .i64 a, .int .i64 b, .slice Av nv cv]] w (DoesPost w0 fb mb rb (m + 1)) := by
  obtain ⟨n, f, L, ML, PP, hJ, hL, hP, hl1, hl2⟩ := jb_start h 1 a b (.slice Av nv cv)
  by_cases hin : 0 ≤ a ∧ a < (ML.length : Int)
  · obtain ⟨k, rfl⟩ := Int.eq_ofNat_of_zero_le hin.1
    exact does_deliver_in w0 fb mb rb m k b Av nv cv w hm n f L ML PP hJ hL hP hl1 hl2 (by omega)
  · exact does_deliver_out w0 fb mb rb m a b Av nv cv w hm n f L ML PP hJ hL hP hl1 hl2 hin
end Go.Proofs.Ytlieepbmmfdeoaa
