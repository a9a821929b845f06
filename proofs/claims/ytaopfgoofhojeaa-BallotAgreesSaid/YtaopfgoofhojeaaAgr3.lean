/- One decree: the walk's pieces. -/
import Derived.Test.YtaopfgoofhojeaaAgr2
import Derived.Test.YtaopfgoofhojeaaBAwake
import Derived.Test.YtaopfgoofhojeaaChos2
import Derived.Deep.RegionHeld3
import Derived.Deep.Cut
import Derived.Deep.RegionLaw
import Derived.Deep.CutRange
import Derived.Deep.CutBlock
namespace Go.Proofs.Ytaopfgoofhojeaa
open Go.RowKit Own

/-- a step of the script -/
structure StepIn where
  mon : Int
  acc : Bool
  at_ : Int
  val : UInt8
def StepAt (w : World) (b o : Nat) (x : StepIn) : Prop := w.cell? ⟨b, o, none⟩ = some (.int .i64 x.mon) ∧ w.cell? ⟨b, o + 1, none⟩ = some (.bool x.acc) ∧ w.cell? ⟨b, o + 2, none⟩ = some (.int .u8 x.at_) ∧ w.cell? ⟨b, o + 3, none⟩ = some (.int .u8 (x.val.toNat : Int))
theorem StepAt.below {w w1 : World} {b o : Nat} {x : StepIn} (h : StepAt w b o x) (hb : Below w.heap.size w w1) : StepAt w1 b o x := by
  obtain ⟨h0, h1, h2, h3⟩ := h
  have hlt : b < w.heap.size := World.block_lt_of_cell? w _ h0
  exact ⟨(hb.cell hlt).trans h0, (hb.cell hlt).trans h1, (hb.cell hlt).trans h2, (hb.cell hlt).trans h3⟩
def ReadsSteps (w : World) (v : Value) (xs : List StepIn) : Prop := (xs = [] ∧ ∃ A c, v = .slice A 0 c) ∨ ∃ b off c, v = .slice (some ⟨b, off, none⟩) xs.length c ∧ ∀ i (hi : i < xs.length), StepAt w b (off + i * 4) (xs[i]'hi)
theorem ReadsSteps.slice {w : World} {v : Value} {xs : List StepIn} (h : ReadsSteps w v xs) : ∃ A c, v = .slice A xs.length c := by
  rcases h with ⟨rfl, A, c, rfl⟩ | ⟨b, off, c, rfl, _⟩
  · exact ⟨A, c, rfl⟩
  · exact ⟨_, c, rfl⟩
theorem ReadsSteps.at_ {w : World} {v : Value} {xs : List StepIn} (h : ReadsSteps w v xs) {i : Nat} (hi : i < xs.length) : ∃ b off c, v = .slice (some ⟨b, off, none⟩) xs.length c ∧ StepAt w b (off + i * 4) (xs[i]'hi) := by
  rcases h with ⟨rfl, _⟩ | ⟨b, off, c, rfl, hc⟩
  · cases hi
  · exact ⟨b, off, c, rfl, hc i hi⟩

theorem nextB_new {s : Bal} (hs : goodB s) (hr : s.r ≤ 1000) (mon : Nat) (hm : mon < 7) : ∃ b : Bal, nextB s (mon : Int) = (b, true) ∧ mayB b = true ∧ b.m = (mon : Int) ∧ rk s < rk b ∧ b.r ≤ s.r + 1 := by
  have hn := good_num hs
  have hz : (!zeroB s && !mayB s) = false := by
    rcases hs with rfl | h
    · rfl
    · rw [h]; simp
  unfold nextB
  rw [if_neg (by rw [hz]; simp)]
  have may : ∀ r : Int, 1 ≤ r → r ≤ 2147483647 → mayB ⟨r, mon⟩ = true := fun r h1 h2 => by simp [mayB]; omega
  by_cases h : (mayB ⟨s.r, mon⟩ && lessB s ⟨s.r, mon⟩) = true
  · rw [if_pos h]
    obtain ⟨h1, h2⟩ := (Bool.and_eq_true _ _).mp h
    exact ⟨_, rfl, h1, rfl, (less_rk hs (.inr h1)).1 h2, by show s.r ≤ s.r + 1; omega⟩
  · rw [if_neg h]
    have h1 := may (s.r + 1) (by omega) (by omega)
    have h2 : rk s < rk ⟨s.r + 1, mon⟩ := by simp only [rk]; omega
    have h3 : (mayB ⟨s.r + 1, mon⟩ && lessB s ⟨s.r + 1, mon⟩) = true := by rw [h1, (less_rk hs (.inr h1)).2 h2]; rfl
    rw [if_pos h3]
    exact ⟨_, rfl, h1, rfl, h2, by show s.r + 1 ≤ s.r + 1; omega⟩

theorem mod7 (x : Int) : ∃ m : Nat, m < 7 ∧ ((x.tmod 7 + 7).tmod 7) = (m : Int) ∧ IntKind.i64.wrap (x.tmod 7 + 7) = x.tmod 7 + 7 := by
  have h1 := Int.tmod_lt_of_pos x (show (0 : Int) < 7 by decide)
  have h2 := Int.lt_tmod_of_pos x (show (0 : Int) < 7 by decide)
  have h3 : (x.tmod 7 + 7).tmod 7 = (x.tmod 7 + 7) % 7 := Int.tmod_eq_emod_of_nonneg (by omega)
  refine ⟨((x.tmod 7 + 7).tmod 7).toNat, by omega, by omega, ?_⟩
  rw [IntKind.wrap_i64]; omega

theorem ne_rows {w : World} {a b : Nat} {cs cs' : Array Value} {t t' : TypeId} {fr fr' : Nat × Nat} (h : w.heap[a]? = some (.cells cs t fr)) (h' : w.heap[b]? = some (.cells cs' t' fr')) (ht : t ≠ t') : a ≠ b := by
  rintro rfl; rw [h] at h'; cases h'; exact ht rfl
theorem ne_map {w : World} {a b : Nat} {cs : Array Value} {t : TypeId} {fr : Nat × Nat} {es : Array MapEntry} {c : Nat} (h : w.heap[a]? = some (.cells cs t fr)) (h' : w.heap[b]? = some (.map es c)) : a ≠ b := by
  rintro rfl; rw [h] at h'; cases h'
theorem cells4 {w : World} {n : Nat} {t : TypeId} {c0 c1 c2 c3 : Value} (h : w.heap[n]? = some (.cells #[c0, c1, c2, c3] t (0, 0))) :
    w.cell? ⟨n, 0, none⟩ = some c0 ∧ w.cell? ⟨n, 1, none⟩ = some c1 ∧ w.cell? ⟨n, 2, none⟩ = some c2 ∧ w.cell? ⟨n, 3, none⟩ = some c3 :=
  ⟨by rw [cell_of_row _ _ 0 _ _ _ h]; rfl, by rw [cell_of_row _ _ 1 _ _ _ h]; rfl, by rw [cell_of_row _ _ 2 _ _ _ h]; rfl, by rw [cell_of_row _ _ 3 _ _ _ h]; rfl⟩
def stepC (x : StepIn) : Array Value := #[.int .i64 x.mon, .bool x.acc, .int .u8 x.at_, .int .u8 (x.val.toNat : Int)]

theorem AM.prCells {w0 w : World} {n ab pb sb : Nat} {acc : Nat → Acc} {pr : Nat → Prp} {mp : Nat → Option Nat} {seen : Bal} (h : AM w0 n ab pb sb acc pr mp seen w) {m : Nat} (hm : m < 7) : ∃ A c, w.cell? ⟨pb, m * 5, none⟩ = some (.int .i64 (pr m).b.r) ∧ w.cell? ⟨pb, m * 5 + 1, none⟩ = some (.int .i64 (pr m).b.m) ∧ w.cell? ⟨pb, m * 5 + 2, none⟩ = some (.map (mp m)) ∧ w.cell? ⟨pb, m * 5 + 3, none⟩ = some (.slice A (pr m).v.length c) ∧ w.cell? ⟨pb, m * 5 + 4, none⟩ = some (.bool (pr m).asked) ∧ (∀ i, w.frozen? ⟨pb, i, none⟩ = false) ∧ BO w (.slice A (pr m).v.length c) (pr m).v := by
  obtain ⟨A, c, h1, h2⟩ := h.prs.at_ m hm
  obtain ⟨cs, hc⟩ := h.prs.row
  exact ⟨A, c, h1 0 _ rfl, h1 1 _ rfl, h1 2 _ rfl, h1 3 _ rfl, h1 4 _ rfl, fun i => frozen_of_block hc i, h2⟩
theorem AM.accCells {w0 w : World} {n ab pb sb : Nat} {acc : Nat → Acc} {pr : Nat → Prp} {mp : Nat → Option Nat} {seen : Bal} (h : AM w0 n ab pb sb acc pr mp seen w) {k : Nat} (hk : k < n) : ∃ A c, w.cell? ⟨ab, k * 5, none⟩ = some (.int .i64 (acc k).p.r) ∧ w.cell? ⟨ab, k * 5 + 1, none⟩ = some (.int .i64 (acc k).p.m) ∧ w.cell? ⟨ab, k * 5 + 2, none⟩ = some (.int .i64 (acc k).a.r) ∧ w.cell? ⟨ab, k * 5 + 3, none⟩ = some (.int .i64 (acc k).a.m) ∧ w.cell? ⟨ab, k * 5 + 4, none⟩ = some (.slice A (acc k).l.length c) ∧ (∀ i, w.frozen? ⟨ab, i, none⟩ = false) ∧ BO w (.slice A (acc k).l.length c) (acc k).l := by
  obtain ⟨A, c, h1, h2⟩ := h.accs.at_ k hk
  obtain ⟨cs, hc⟩ := h.accs.row
  exact ⟨A, c, h1 0 _ rfl, h1 1 _ rfl, h1 2 _ rfl, h1 3 _ rfl, h1 4 _ rfl, fun i => frozen_of_block hc i, h2⟩
theorem up_alloc {W : World} {b : Nat} {O : Obj} (h : W.heap[b]? = some O) (o : Obj) : (W.alloc o).heap[b]? = some O := (((Below.refl _ W).alloc (Nat.le_refl _) o).block b (Array.getElem?_eq_some_iff.1 h).1).trans h
theorem below_alloc (W : World) (o : Obj) : Below W.heap.size W (W.alloc o) := (Below.refl _ _).alloc (Nat.le_refl _) o

theorem upd_twice {α : Type} (g : Nat → α) (k : Nat) (x y : α) : upd (upd g k x) k y = upd g k y := by
  funext i; unfold upd; split <;> rfl
/-- in the loop of promises -/
def PS (w0 : World) (n m q : Nat) (b : Bal) (pr : Nat → Prp) (mp : Nat → Option Nat) (V : Nat → Bal → Prop) (val : Bal → List UInt8) (asked : Bal → Prop) (bb xb mb : Nat) (xc : Array Value) (fv : Value) (fl : List UInt8) (wr : World) : Prop :=
  ∃ (acc : Nat → Acc) (g : Nat → Option Acc), wr.heap[bb]? = some (.cells #[.int .i64 b.r, .int .i64 b.m] 23 (0, 0)) ∧ wr.heap[xb]? = some (.cells xc 37 (0, 0)) ∧
    AM w0 n w0.heap.size (w0.heap.size + 1) (w0.heap.size + 1 + 1) acc (upd pr m ⟨b, g, [], false⟩) (upd mp m (some mb)) b wr ∧ BO wr fv fl ∧ Inv n acc (upd pr m ⟨b, g, [], false⟩) b V val asked ∧ ∀ i, q ≤ i → g i = none

theorem qc_le (Q : Nat → Bool) : ∀ n, qc Q n ≤ n
  | 0 => Nat.le_refl _
  | n + 1 => by have := qc_le Q n; simp only [qc]; split <;> omega
theorem run_lenMap {W : World} {mb : Nat} {es : Array MapEntry} {c : Nat} (h : W.heap[mb]? = some (.map es c)) : (Builtin.len_ #[39] 3 #[.map (some mb)]).run Try.prog W = .ok (.int .i64 es.size) W := by
  simp [Builtin.len_, run_underlying Try.underlying39, MapKept.run_getObj_map h, Result.andThen, goInt]
theorem cnt_qc (acc : Nat → Acc) (b : Bal) : ∀ n, cntA ((List.range n).map acc) b = qc (fun k => decide ((acc k).a = b)) n
  | 0 => rfl
  | n + 1 => by
    rw [List.range_succ, List.map_append, List.map_cons, List.map_nil, cntA_snoc, cnt_qc acc b n]
    simp only [qc, decide_eq_true_eq]
theorem good_wf {b : Bal} (h : goodB b) : (Lit.int .i64 b.r).wf = true ∧ (Lit.int .i64 b.m).wf = true := by
  have hn := good_num h
  have e : ∀ z : Int, 0 ≤ z → z ≤ 2147483647 → (Lit.int .i64 z).wf = true := fun z h1 h2 => by
    have h3 : (-9223372036854775808 : Int) ≤ z := by omega
    have h4 : z ≤ 9223372036854775807 := by omega
    simpa [Lit.wf, IntKind.min, IntKind.max, IntKind.signed, IntKind.bits] using And.intro h3 h4
  exact ⟨e _ (by omega) (by omega), e _ (by omega) (by omega)⟩
theorem accs_ok {n : Nat} {acc : Nat → Acc} {pr : Nat → Prp} {seen : Bal} {V : Nat → Bal → Prop} {val : Bal → List UInt8} {asked : Bal → Prop} (h : Inv n acc pr seen V val asked) : ∀ x ∈ (List.range n).map acc, AccOk x := fun x hx => by
  obtain ⟨k, hk, rfl⟩ := List.mem_map.1 hx
  obtain ⟨_, h2, _, _, h5, _⟩ := h.ac k (List.mem_range.1 hk)
  exact ⟨(good_wf h2).1, (good_wf h2).2, by omega⟩
theorem maj_chosen {n : Nat} {acc : Nat → Acc} {pr : Nat → Prp} {seen : Bal} {V : Nat → Bal → Prop} {val : Bal → List UInt8} {asked : Bal → Prop} (h : Inv n acc pr seen V val asked) {b : Bal} (hm : Maj ((List.range n).map acc) b) {y : Acc} (hy : y ∈ (List.range n).map acc) (hya : y.a = b) : Chos n V b ∧ val b = y.l := by
  have hne : b ≠ B0 := by rintro rfl; have := hm.2; simp [B0, lessB] at this
  refine ⟨⟨fun k => decide ((acc k).a = b), by have := hm.1; rw [cnt_qc] at this; simpa using this, fun k hk he => ?_⟩, ?_⟩
  · have he : (acc k).a = b := by simpa using he
    rcases h.last k hk with h0 | ⟨h1, _⟩
    · exact absurd (he.symm.trans h0) hne
    · rw [← he]; exact h1
  · obtain ⟨k, hk, rfl⟩ := List.mem_map.1 hy
    rcases h.last k (List.mem_range.1 hk) with h0 | ⟨_, h2⟩
    · exact absurd (hya.symm.trans h0) hne
    · rw [← hya]; exact h2.symm
/-- a promise is noted in the loop of promises -/
theorem prom_note {w0 W : World} {n ab pb sb m mb q : Nat} {acc : Nat → Acc} {pr : Nat → Prp} {mp : Nat → Option Nat} {b : Bal} {g : Nat → Option Acc} (hA : AM w0 n ab pb sb acc (upd pr m ⟨b, g, [], false⟩) (upd mp m (some mb)) b W) (hn : n ≤ 7) (hm7 : m < 7) (hq : q < n) (hg : g q = none) (y : Acc) {Aa : Option Addr} {ca : Nat} (hba : BO W (.slice Aa y.l.length ca) y.l) :
    ∃ w7, (Instr.mapUpdate 39 (.map (some mb)) (.int .i64 q) (.agg #[.int .i64 y.p.r, .int .i64 y.p.m, .int .i64 y.a.r, .int .i64 y.a.m, .slice Aa y.l.length ca])).run Try.prog W = .ok () w7 ∧
      AM w0 n ab pb sb acc (upd pr m ⟨b, upd g q (some y), [], false⟩) (upd mp m (some mb)) b w7 ∧ Chg [mb] W w7 ∧ KeepU W w7 := by
  have h := hA.note hn hm7 (upd_same _ _ _) hq (by rw [upd_same]; exact hg) y hba
  rw [upd_same, upd_twice] at h
  exact h
theorem prom_inv {n m q : Nat} {acc : Nat → Acc} {pr : Nat → Prp} {b : Bal} {g : Nat → Option Acc} {V : Nat → Bal → Prop} {val : Bal → List UInt8} {asked : Bal → Prop} (h : Inv n acc (upd pr m ⟨b, g, [], false⟩) b V val asked) (hm7 : m < 7) (hq : q < n) (hb : mayB b = true) {y : Acc} (hy : acc q = y) :
    Inv n (upd acc q ⟨b, y.a, y.l⟩) (upd pr m ⟨b, upd g q (some y), [], false⟩) b V val asked := by
  have h2 := h.prepare hq hm7 hb (by rw [upd_same]) (by rw [upd_same])
  rw [upd_same, upd_twice, hy] at h2
  exact h2

/-- between two steps of the script -/
def OS (w0 : World) (n : Nat) (j : Nat) (fv : Value) (fl : List UInt8) (so : Bool) (wr : World) : Prop :=
  ∃ acc pr mp seen V val asked, AM w0 n w0.heap.size (w0.heap.size + 1) (w0.heap.size + 1 + 1) acc pr mp seen wr ∧ Inv n acc pr seen V val asked ∧ seen.r ≤ (j : Int) ∧ BO wr fv fl ∧ (so = true → ∃ b, Chos n V b ∧ val b = fl)

set_option maxHeartbeats 8000000 in
set_option maxRecDepth 100000 in
theorem agrees_walk (n0 : Int) (v : Value) (xs : List StepIn) (w : World) (hv : ReadsSteps w v xs) :
    Calls Try.prog 4 #[.int .i64 n0, v] w fun e w' => e = .returned (.bool true) ∧ Below w.heap.size w w' := by
  obtain ⟨Av, cv, rfl⟩ := hv.slice
  have HV := Lib.hid hv
  clear hv
  obtain ⟨nn, hn1, hn2, hn3⟩ := mod7 n0
  go_enter Try.func4, Try.ntmps4
  go_upto_region 2 with (fail)
  have hN : (1 : Int) + (nn : Int) = ((nn + 1 : Nat) : Int) := by omega
  rw [hN]
  have hnr : nn + 1 ≤ 7 := by omega
  clear hn1 hn2 hn3 hN
  generalize nn + 1 = n at *
  have HN := Lib.hid hnr
  have hmk1 := run_accs n hnr
  have hmk2 := run_prs
  have HS := Lib.hid (AM.start w n)
  clear hnr
  have HF : Hid (BO (((((w.alloc (accsO n)).alloc prsO).alloc (.cells #[.int .i64 0, .int .i64 0] 23)).alloc (.cells #[] 5))) (.slice (some ⟨w.heap.size + 1 + 1 + 1, 0, none⟩) 0 0) []) := by
    have hz : (((w.alloc (accsO n)).alloc prsO).alloc (.cells #[.int .i64 0, .int .i64 0] 23)).heap.size = w.heap.size + 1 + 1 + 1 := by simp
    have := World.ownsRow_made (((w.alloc (accsO n)).alloc prsO).alloc (.cells #[.int .i64 0, .int .i64 0] 23)) (e := 5) (size := 1) (base := 0) #[] 0 (Nat.zero_le _) (by unfold maxLen; omega) rfl
    rw [hz] at this
    exact this
  go_wp2_with fail
  clear hmk1 hmk2
  go_loopw [8, 9, 10] (fun fv sm i wr => ∃ (j : Nat) (A : Option Addr) (c : Nat) (fl : List UInt8) (so : Bool), i = .int .i64 j ∧ fv = .slice A fl.length c ∧ sm = .bool so ∧ j ≤ 300 ∧ j ≤ xs.length ∧ Hid (OS w n j (.slice A fl.length c) fl so wr)) (fun _ _ i _ => xs.length - (intOf i).toNat)
  case atStart => exact ⟨0, _, 0, [], false, rfl, rfl, rfl, Nat.zero_le _, Nat.zero_le _, _, _, _, _, _, _, _, HS.out.go ((Below.refl _ _).alloc (Nat.le_refl _) _), Inv.zero n, Int.le_refl _, HF.out, fun h => by cases h⟩
  case round =>
    obtain ⟨j, Af, cf, fl, so, rfl, rfl, rfl, hj300, hjx, HO⟩ := hrel
    obtain ⟨wL, rfl⟩ : ∃ wo : World, wo = wr := ⟨_, rfl⟩
    clear HS HF
    by_cases hlt : j < xs.length ∧ j < 300
    · obtain ⟨acc, pr, mp, seen, V, val, asked, hAM, hInv, hsr, hfo, hfirst⟩ := HO.out
      have k1 : (j : Int) < (xs.length : Int) := by omega
      have k2 : (j : Int) < 300 := by omega
      obtain ⟨bd, od, cd, hve, hat⟩ := HV.out.at_ hlt.1
      cases hve
      generalize xs[j]'hlt.1 = x at *
      obtain ⟨e0, e1, e2, e3⟩ := hat.below hAM.below
      obtain ⟨m, hm7, hm2, hm3⟩ := mod7 x.mon
      have hm0 : (0 : Int) ≤ (m : Int) := by omega
      have hm6 : (m : Int) < 7 := by omega
      have hbx := heap_alloc_new wL (.cells (stepC x) 37)
      have hAM2 := hAM.go ((Below.refl _ _).alloc (Nat.le_refl _) (.cells (stepC x) 37))
      have hfo2 := hfo.keep (KeepU.below ((Below.refl _ _).alloc (Nat.le_refl _) (.cells (stepC x) 37)))
      have HC := Lib.hid (And.intro hbx (And.intro hAM2 (And.intro hfo2 (And.intro hInv (And.intro hsr hfirst)))))
      have HJ := Lib.hid (And.intro hj300 (And.intro hjx (And.intro hlt hm7)))
      unfold stepC at HC
      clear hbx hAM2 hfo2 hAM hInv hsr hfo hfirst hat hj300 hjx hlt hm7
      go_upto_region 12 with (fail)
      clear e0 e1 e2 e3
      obtain ⟨W1, hW1⟩ : ∃ W1, W1 = wL.alloc (.cells #[.int .i64 x.mon, .bool x.acc, .int .u8 x.at_, .int .u8 (x.val.toNat : Int)] 37) := ⟨_, rfl⟩
      rw [← hW1]
      have HC : Hid (W1.heap[wL.heap.size]? = some (.cells #[.int .i64 x.mon, .bool x.acc, .int .u8 x.at_, .int .u8 (x.val.toNat : Int)] 37 (0, 0)) ∧ AM w n w.heap.size (w.heap.size + 1) (w.heap.size + 1 + 1) acc pr mp seen W1 ∧ BO W1 (.slice Af fl.length cf) fl ∧ Inv n acc pr seen V val asked ∧ seen.r ≤ (j : Int) ∧ (so = true → ∃ b, Chos n V b ∧ val b = fl)) := by rw [hW1]; exact HC.out
      clear hW1
      obtain ⟨f0, f1, f2, f3⟩ := cells4 HC.out.1
      obtain ⟨xm, xa, xt, xv⟩ := x
      simp only [] at *
      cases xa with
      | false =>
        obtain ⟨g0, g1, _⟩ := cells2 HC.out.2.1.seen
        obtain ⟨b, hnb, hbm, hbmon, hblt, hbr⟩ := nextB_new HC.out.2.2.2.1.sn (by have := HC.out.2.2.2.2.1; have := HJ.out.1; omega) m HJ.out.2.2.2
        have hgn := good_num HC.out.2.2.2.1.sn
        have HNx : Hid (∀ W, Calls Try.prog 11 #[.agg #[.int .i64 seen.r, .int .i64 seen.m], .int .i64 m] W fun e w' => e = .returned (.tuple #[.agg #[.int .i64 b.r, .int .i64 b.m], .bool true]) ∧ Below W.heap.size W w') := fun W => by
          have hz : zeroB ⟨seen.r, seen.m⟩ = true ∨ mayB ⟨seen.r, seen.m⟩ = true := by
            rcases HC.out.2.2.2.1.sn with h | h
            · left; rw [h]; rfl
            · exact .inr h
          refine (next_in seen.r seen.m m W hz (by omega) (by omega)).mono ?_
          rintro e w' ⟨rfl, hb⟩
          have : nextB ⟨seen.r, seen.m⟩ (m : Int) = (b, true) := hnb
          rw [this]
          exact ⟨rfl, hb⟩
        have HBl := Lib.hid (And.intro hbm (And.intro hbmon (And.intro hblt hbr)))
        clear hnb hbm hbmon hblt hbr hgn
        go_upto_region 16 with (go_at_call 11; (with_reducible refine (HNx.out _).mono ?_); rintro e w2 ⟨rfl, hb2⟩; have HB2 := Lib.hid hb2; clear hb2)
        obtain ⟨W3, hW3⟩ : ∃ W3, W3 = w2.alloc (.cells #[.int .i64 b.r, .int .i64 b.m] 23) := ⟨_, rfl⟩
        rw [← hW3]
        have h23 : Below w2.heap.size w2 W3 := by rw [hW3]; exact below_alloc _ _
        have h13 : Below W1.heap.size W1 W3 := HB2.out.trans (h23.mono HB2.out.size)
        have hn3 : W3.heap[w2.heap.size]? = some (.cells #[.int .i64 b.r, .int .i64 b.m] 23 (0, 0)) := by rw [hW3]; exact heap_alloc_new w2 _
        have hst3 := (h13.block _ (Array.getElem?_eq_some_iff.1 HC.out.1).1).trans HC.out.1
        have hAM3 := HC.out.2.1.go h13
        have hfo3 := HC.out.2.2.1.keep (KeepU.below h13)
        have hne : w2.heap.size ≠ w.heap.size + 1 + 1 := by have h1 := HC.out.2.1.lt.2.2; have h2 := HB2.out.size; omega
        obtain ⟨n0, n1, _⟩ := cells2 hn3
        obtain ⟨g0, g1, gf⟩ := cells2 hAM3.seen
        have H3 := Lib.hid (And.intro hn3 (And.intro hst3 (And.intro hAM3 (And.intro hfo3 hne))))
        clear f0 f1 f2 f3 hW3 h23 h13 hn3 hst3 hAM3 hfo3 hne HB2
        go_upto_region 17 with (fail)
        obtain ⟨hAM4, hku4⟩ := H3.out.2.2.1.saw b
        have hn4 : ((W3.setCell ⟨w.heap.size + 1 + 1, 0, none⟩ (.int .i64 b.r)).setCell ⟨w.heap.size + 1 + 1, 1, none⟩ (.int .i64 b.m)).heap[w2.heap.size]? = _ := ((Below.heap_setCell _ _ _ _ H3.out.2.2.2.2).trans (Below.heap_setCell _ _ _ _ H3.out.2.2.2.2)).trans H3.out.1
        have hst4 : ((W3.setCell ⟨w.heap.size + 1 + 1, 0, none⟩ (.int .i64 b.r)).setCell ⟨w.heap.size + 1 + 1, 1, none⟩ (.int .i64 b.m)).heap[wL.heap.size]? = _ := ((Below.heap_setCell _ _ _ _ (ne_rows H3.out.2.1 H3.out.2.2.1.seen (by decide))).trans (Below.heap_setCell _ _ _ _ (ne_rows H3.out.2.1 H3.out.2.2.1.seen (by decide)))).trans H3.out.2.1
        have hfo4 := H3.out.2.2.2.1.keep hku4
        generalize ((W3.setCell ⟨w.heap.size + 1 + 1, 0, none⟩ (.int .i64 b.r)).setCell ⟨w.heap.size + 1 + 1, 1, none⟩ (.int .i64 b.m)) = W4 at *
        have hm7 := HJ.out.2.2.2
        have hAM5 := hAM4.go (below_alloc W4 (.map #[] 0))
        obtain ⟨Ap, cp, q0, q1, q2, q3, q4, qf, _⟩ := hAM5.prCells hm7
        obtain ⟨hAM6, hku6⟩ := hAM5.fresh hm7 ⟨b, fun _ => none, [], false⟩ (fun _ => rfl) rfl (mb := W4.heap.size) (fun _ => hAM4.below.size) (heap_alloc_new W4 _) (hAM4.far (Nat.le_refl _))
        obtain ⟨cpb, hpb⟩ := hAM5.prs.row
        have hn6 := (heap_setCells_other (b := w.heap.size + 1) (prVs ⟨b, fun _ => none, [], false⟩ (some W4.heap.size) (.slice none 0 0)) (m * 5) (W4.alloc (.map #[] 0)) w2.heap.size (ne_rows (up_alloc hn4 _) hpb (by decide))).trans (up_alloc hn4 _)
        have hst6 := (heap_setCells_other (b := w.heap.size + 1) (prVs ⟨b, fun _ => none, [], false⟩ (some W4.heap.size) (.slice none 0 0)) (m * 5) (W4.alloc (.map #[] 0)) wL.heap.size (ne_rows (up_alloc hst4 _) hpb (by decide))).trans (up_alloc hst4 _)
        have hfo6 := (hfo4.keep (KeepU.below (below_alloc W4 (.map #[] 0)))).keep hku6
        have hInv6 := HC.out.2.2.2.1.fresh HBl.out.1 HBl.out.2.1 HBl.out.2.2.1
        obtain ⟨n0, n1, _⟩ := cells2 hn4
        have hmm := @run_makeMap Try.prog
        have H6 := Lib.hid (And.intro hn6 (And.intro hst6 (And.intro hAM6 (And.intro hfo6 hInv6))))
        clear g0 g1 gf H3 hAM4 hku4 hn4 hst4 hfo4 hAM5 hAM6 hku6 hpb hn6 hst6 hfo6 hInv6 hm7
        go_upto_region 18 with (fail)
        clear n0 n1 q0 q1 q2 q3 q4 qf hmm
        obtain ⟨W6, hW6⟩ : ∃ W6, W6 = ((((((W4.alloc (.map #[] 0)).setCell ⟨w.heap.size + 1, m * 5, none⟩ (.int .i64 b.r)).setCell ⟨w.heap.size + 1, m * 5 + 1, none⟩ (.int .i64 b.m)).setCell ⟨w.heap.size + 1, m * 5 + 2, none⟩ (.map (some W4.heap.size))).setCell ⟨w.heap.size + 1, m * 5 + 3, none⟩ (.slice none 0 0)).setCell ⟨w.heap.size + 1, m * 5 + 4, none⟩ (.bool false)) := ⟨_, rfl⟩
        rw [← hW6]
        have hW6' : W6 = (W4.alloc (.map #[] 0)).setCells (w.heap.size + 1) (m * 5) (prVs ⟨b, fun _ => none, [], false⟩ (some W4.heap.size) (.slice none 0 0)) := hW6
        rw [← hW6'] at H6
        clear hW6 hW6'
        go_wp2_with fail
        go_loopw [16] (fun k wr => ∃ q : Nat, k = .int .i64 q ∧ q ≤ n ∧ Hid (PS w n m q b pr mp V val asked w2.heap.size wL.heap.size W4.heap.size (stepC ⟨xm, false, xt, xv⟩) (.slice Af fl.length cf) fl wr)) (fun k _ => n - (intOf k).toNat)
        case atStart => exact ⟨0, rfl, Nat.zero_le _, acc, fun _ => none, H6.out.1, H6.out.2.1, H6.out.2.2.1, H6.out.2.2.2.1, H6.out.2.2.2.2, fun _ _ => rfl⟩
        case round =>
          obtain ⟨q, rfl, hqn, HP⟩ := hrel
          obtain ⟨wP, rfl⟩ : ∃ wo : World, wo = wr := ⟨_, rfl⟩
          clear H6
          by_cases hq : q < n
          · have j1 : (q : Int) < (n : Int) := by omega
            obtain ⟨acc2, g, hP1, hP2, hP3, hP4, hP5, hP6⟩ := HP.out
            obtain ⟨f0, f1, f2, f3⟩ := cells4 hP2
            have HPx := Lib.hid (And.intro hP1 (And.intro hP2 (And.intro hP3 (And.intro hP4 (And.intro hP5 hP6)))))
            clear hP1 hP2 hP3 hP4 hP5 hP6
            have j0 : (0 : Int) ≤ (q : Int) := by omega
            have j7 : (q : Int) < 7 := by have := HN.out; omega
            cases hB : ((xt / 2 ^ q).tmod 2 == 1) with
            | false =>
              go_wp2_with fail
              go_roundw
              case rel => exact ⟨q + 1, by go_num, by omega, acc2, g, HPx.out.1, HPx.out.2.1, HPx.out.2.2.1, HPx.out.2.2.2.1, HPx.out.2.2.2.2.1, fun i hi => HPx.out.2.2.2.2.2 i (by omega)⟩
              case measure => simp [intOf]; omega
            | true =>
              obtain ⟨Aa, ca, a0, a1, a2, a3, a4, af, hba⟩ := HPx.out.2.2.1.accCells hq
              obtain ⟨n0, n1, _⟩ := cells2 HPx.out.1
              have hready := HPx.out.2.2.2.2.1.ready hq HBl.out.1
              have hac := HPx.out.2.2.2.2.1.ac q hq
              have HPr : Hid (∀ W, Below wP.heap.size wP W → Calls Try.prog 5 #[.agg #[.int .i64 (acc2 q).p.r, .int .i64 (acc2 q).p.m, .int .i64 (acc2 q).a.r, .int .i64 (acc2 q).a.m, .slice Aa (acc2 q).l.length ca], .agg #[.int .i64 b.r, .int .i64 b.m]] W fun e w' => ∃ A' c', e = .returned (.tuple #[.agg #[.int .i64 b.r, .int .i64 b.m, .int .i64 (acc2 q).a.r, .int .i64 (acc2 q).a.m, .slice A' (acc2 q).l.length c'], .bool true]) ∧ BO w' (.slice A' (acc2 q).l.length c') (acc2 q).l ∧ Below W.heap.size W w') := fun W hW => by
                refine (prep_any _ _ _ _ b.r b.m Aa (acc2 q).l ca W ((ReadsB.own hba).below hW) (by omega)).mono ?_
                rintro e w' ⟨A', c', rfl, ho, hb⟩
                have hr : prepOk ⟨⟨(acc2 q).p.r, (acc2 q).p.m⟩, ⟨(acc2 q).a.r, (acc2 q).a.m⟩, (acc2 q).l⟩ ⟨b.r, b.m⟩ = true := hready
                exact ⟨A', c', by simp only [hr, if_true], own_mono ho (Nat.zero_le _), hb⟩
              have HAc : Hid (∀ W, Below wP.heap.size wP W → W.cell? ⟨w.heap.size, q * 5, none⟩ = some (.int .i64 (acc2 q).p.r) ∧ W.cell? ⟨w.heap.size, q * 5 + 1, none⟩ = some (.int .i64 (acc2 q).p.m) ∧ W.cell? ⟨w.heap.size, q * 5 + 2, none⟩ = some (.int .i64 (acc2 q).a.r) ∧ W.cell? ⟨w.heap.size, q * 5 + 3, none⟩ = some (.int .i64 (acc2 q).a.m) ∧ W.cell? ⟨w.heap.size, q * 5 + 4, none⟩ = some (.slice Aa (acc2 q).l.length ca) ∧ W.cell? ⟨w2.heap.size, 0, none⟩ = some (.int .i64 b.r) ∧ W.cell? ⟨w2.heap.size, 1, none⟩ = some (.int .i64 b.m)) := fun W hW => by
                have t : ∀ bk o u, wP.cell? ⟨bk, o, none⟩ = some u → W.cell? ⟨bk, o, none⟩ = some u := fun bk o u hu => (hW.cell (World.block_lt_of_cell? wP _ hu)).trans hu
                exact ⟨t _ _ _ a0, t _ _ _ a1, t _ _ _ a2, t _ _ _ a3, t _ _ _ a4, t _ _ _ n0, t _ _ _ n1⟩
              have HBa := Lib.hid (And.intro hba hac)
              obtain ⟨y, hy⟩ : ∃ y, acc2 q = y := ⟨_, rfl⟩
              rw [hy] at a0 a1 a2 a3 a4 HPr HAc HBa
              have HYq := Lib.hid hy
              clear hba hac hready hy
              go_upto_region 22 with (fail)
              go_cut [17, 18] from 76 to 110 (fun bx okv wx => ∃ (gx : Nat) (A5 : Option Addr) (c5 : Nat), bx = .pointer (some ⟨gx, 0, none⟩) ∧ okv = .bool true ∧ Hid (wx.heap[gx]? = some (.cells #[.int .i64 b.r, .int .i64 b.m, .int .i64 y.a.r, .int .i64 y.a.m, .slice A5 y.l.length c5] 26 (0, 0)) ∧ wP.heap.size ≤ gx ∧ BO wx (.slice A5 y.l.length c5) y.l ∧ Below wP.heap.size wP wx))
              case first =>
                have HD : Hid (Below wP.heap.size wP wP.drew) := (Below.refl _ _).drew
                have ne1 : ¬ w.heap.size = wP.heap.size := Nat.ne_of_lt (World.block_lt_of_cell? wP _ a0)
                have ne2 : ¬ wP.heap.size = w.heap.size := Nat.ne_of_gt (World.block_lt_of_cell? wP _ a0)
                have ne3 : ¬ w2.heap.size = wP.heap.size := Nat.ne_of_lt (World.block_lt_of_cell? wP _ n0)
                have ne4 : ¬ wP.heap.size = w2.heap.size := Nat.ne_of_gt (World.block_lt_of_cell? wP _ n0)
                have HD2 : Hid (Below wP.heap.size wP (wP.alloc (.cells #[.int .i64 0, .int .i64 0, .int .i64 0, .int .i64 0, .slice none 0 0] 26)).drew) := (below_alloc _ _).drew
                go_region_held3 (fun W => W.cell? ⟨w.heap.size, q * 5, none⟩ = some (.int .i64 y.p.r) ∧ W.cell? ⟨w.heap.size, q * 5 + 1, none⟩ = some (.int .i64 y.p.m) ∧ W.cell? ⟨w.heap.size, q * 5 + 2, none⟩ = some (.int .i64 y.a.r) ∧ W.cell? ⟨w.heap.size, q * 5 + 3, none⟩ = some (.int .i64 y.a.m) ∧ W.cell? ⟨w.heap.size, q * 5 + 4, none⟩ = some (.slice Aa y.l.length ca) ∧ W.cell? ⟨w2.heap.size, 0, none⟩ = some (.int .i64 b.r) ∧ W.cell? ⟨w2.heap.size, 1, none⟩ = some (.int .i64 b.m)) (go_keep)
                  (first
                    | (go_at_call 5; (with_reducible refine (HPr.out _ HD.out).mono ?_); rintro e w5 ⟨A5, c5, rfl, ho5, hb5⟩; have hb5' := HD.out.trans (hb5.mono HD.out.size); obtain ⟨a0, a1, a2, a3, a4, n0, n1⟩ := HAc.out _ hb5'; have H5 := Lib.hid (And.intro ho5 hb5'); clear ho5 hb5 hb5')
                    | (go_at_call 5; (with_reducible refine (HPr.out _ HD2.out).mono ?_); rintro e w5 ⟨A5, c5, rfl, ho5, hb5⟩; have hb5' := HD2.out.trans (hb5.mono HD2.out.size); obtain ⟨a0, a1, a2, a3, a4, n0, n1⟩ := HAc.out _ hb5'; have hbx5 := (hb5.block wP.heap.size (by simp)).trans (heap_alloc_new wP (.cells #[.int .i64 0, .int .i64 0, .int .i64 0, .int .i64 0, .slice none 0 0] 26)); obtain ⟨z0, z1, z2, z3, z4, zf⟩ := cells5 hbx5; have H5b := Lib.hid hbx5; have H5 := Lib.hid (And.intro ho5 hb5'); clear ho5 hb5 hb5' hbx5))
                all_goals
                  go_wp2_with fail
                  go_meet
                  first
                    | exact ⟨_, A5, c5, rfl, rfl, heap_alloc_new w5 _, H5.out.2.size, H5.out.1.keep (KeepU.below (below_alloc _ _)), H5.out.2.trans ((below_alloc _ _).mono H5.out.2.size)⟩
                    | exact ⟨wP.heap.size, A5, c5, rfl, rfl, set5 H5b.out _ _ _ _ _, Nat.le_refl _, H5.out.1.keep (KeepU.cells H5b.out (by decide) 0 [_, _, _, _, _]), below5 H5.out.2 (Nat.le_refl _) _ _ _ _ _⟩
              case rest =>
                obtain ⟨gx, A5, c5, rfl, rfl, HX⟩ := hcut
                have hAMc := HPx.out.2.2.1.go HX.out.2.2.2
                have hba2 := HBa.out.1.keep (KeepU.below HX.out.2.2.2)
                obtain ⟨w7, hrun, hAM7, hch7, hku7⟩ := prom_note (hAMc.go (Below.refl _ _).drew) HN.out HJ.out.2.2.2 hq (HPx.out.2.2.2.2.2 q (Nat.le_refl _)) y (hba2.keep (KeepU.below (Below.refl _ _).drew))
                obtain ⟨a0, a1, a2, a3, a4, _, _⟩ := HAc.out _ HX.out.2.2.2
                obtain ⟨_, _, _, _, p2, _, _, _, _⟩ := hAMc.prCells HJ.out.2.2.2
                rw [upd_same] at p2
                obtain ⟨es7, c7, hmap7⟩ := (hAMc.go (Below.refl _ _).drew).maps.isMap HJ.out.2.2.2 (upd_same _ _ _)
                have far7 : ∀ (gg : Nat) (cs : Array Value) (t : TypeId), wc.heap[gg]? = some (.cells cs t (0, 0)) → w7.heap[gg]? = some (.cells cs t (0, 0)) := fun gg cs t hg => (hch7.block gg (Array.getElem?_eq_some_iff.1 hg).1 (by rw [List.mem_singleton]; exact ne_map (w := wc.drew) hg hmap7)).trans hg
                have hbx7 := far7 _ _ _ HX.out.1
                obtain ⟨z0, z1, z2, z3, z4, _⟩ := cells5 hbx7
                obtain ⟨_, _, t0, t1, t2, t3, t4, tf, _⟩ := hAM7.accCells hq
                have h1b := far7 _ _ _ ((HX.out.2.2.2.block _ (Array.getElem?_eq_some_iff.1 HPx.out.1).1).trans HPx.out.1)
                have h1x := far7 _ _ _ ((HX.out.2.2.2.block _ (Array.getElem?_eq_some_iff.1 HPx.out.2.1).1).trans HPx.out.2.1)
                have hfo7 := (HPx.out.2.2.2.1.keep (KeepU.below HX.out.2.2.2)).keep ((KeepU.below (Below.refl _ _).drew).trans hku7)
                have hbo7 := HX.out.2.2.1.keep ((KeepU.below (Below.refl _ _).drew).trans hku7)
                obtain ⟨hAM8, hku8⟩ := hAM7.setAcc hq ⟨b, y.a, y.l⟩ hbo7
                have hacs := hAM7.accs.row
                obtain ⟨csa, hacs⟩ := hacs
                have h8b := (heap_setCells_other (b := w.heap.size) (accVs ⟨b, y.a, y.l⟩ (.slice A5 y.l.length c5)) (q * 5) w7 w2.heap.size (ne_rows h1b hacs (by decide))).trans h1b
                have h8x := (heap_setCells_other (b := w.heap.size) (accVs ⟨b, y.a, y.l⟩ (.slice A5 y.l.length c5)) (q * 5) w7 wL.heap.size (ne_rows h1x hacs (by decide))).trans h1x
                have HEnd := Lib.hid (And.intro h8b (And.intro h8x (And.intro hAM8 (And.intro (hfo7.keep hku8) (prom_inv HPx.out.2.2.2.2.1 HJ.out.2.2.2 hq HBl.out.1 HYq.out)))))
                clear hAMc hba2 hAM7 hch7 hku7 hmap7 far7 hbx7 h1b h1x hfo7 hbo7 hAM8 hku8 hacs h8b h8x
                go_wp2_with fail
                go_region
                all_goals
                  go_wp2_with fail
                  go_roundw
                  case rel => exact ⟨q + 1, by go_num, by omega, _, upd g q (some y), HEnd.out.1, HEnd.out.2.1, HEnd.out.2.2.1, HEnd.out.2.2.2.1, HEnd.out.2.2.2.2, fun i hi => by rw [upd_other _ _ (by omega)]; exact HPx.out.2.2.2.2.2 i (by omega)⟩
                  case measure => simp [intOf]; omega
          · have j1 : ¬ (q : Int) < (n : Int) := by omega
            obtain ⟨acc2, g, hP1, hP2, hP3, hP4, hP5, hP6⟩ := HP.out
            have HPx := Lib.hid (And.intro hP3 (And.intro hP4 hP5))
            clear hP1 hP2 hP3 hP4 hP5 hP6
            go_wp2_with fail
            go_roundw
            case rel =>
              refine ⟨j + 1, Af, cf, fl, so, by go_num, rfl, rfl, by have := HJ.out; omega, by have := HJ.out; omega, acc2, _, _, b, V, val, asked, HPx.out.1, HPx.out.2.2, ?_, HPx.out.2.1, HC.out.2.2.2.2.2⟩
              have h1 := HBl.out.2.2.2
              have h2 := HC.out.2.2.2.2.1
              omega
            case measure => simp [intOf]; omega
      | true =>
        have hAM1 := HC.out.2.1
        obtain ⟨Ap, cp, q0, q1, q2, q3, q4, qf, hpv⟩ := hAM1.prCells HJ.out.2.2.2
        have hmid : ∀ wr, AM w n w.heap.size (w.heap.size + 1) (w.heap.size + 1 + 1) acc pr mp seen wr → BO wr (.slice Af fl.length cf) fl → OS w n (j + 1) (.slice Af fl.length cf) fl so wr := fun wr h1 h2 => ⟨acc, pr, mp, seen, V, val, asked, h1, HC.out.2.2.2.1, by have := HC.out.2.2.2.2.1; omega, h2, HC.out.2.2.2.2.2⟩
        have HMid := Lib.hid hmid
        have HMx := Lib.hid (hAM1.maps.at_ m HJ.out.2.2.2)
        obtain ⟨mo, hmo⟩ : ∃ mo, mp m = mo := ⟨_, rfl⟩
        obtain ⟨ak, hak⟩ : ∃ ak, (pr m).asked = ak := ⟨_, rfl⟩
        rw [hmo] at q2
        rw [hak] at q4
        have HMo := Lib.hid (And.intro hmo hak)
        clear hmid hAM1 hmo hak hpv
        by_cases hnone : mo = none
        · subst hnone
          have hn0 : (0 : Int) ≤ (n : Int) := by omega
          go_wp2_with fail
          go_roundw
          case rel => exact ⟨j + 1, Af, cf, fl, so, by go_num, rfl, rfl, by have := HJ.out; omega, by have := HJ.out; omega, HMid.out _ HC.out.2.1 HC.out.2.2.1⟩
          case measure => simp [intOf]; omega
        · obtain ⟨mb, rfl⟩ : ∃ mb, mo = some mb := by cases mo with | none => exact absurd rfl hnone | some mb => exact ⟨mb, rfl⟩
          clear hnone
          obtain ⟨es, clock, hes, hsz⟩ : ∃ es clock, W1.heap[mb]? = some (.map es clock) ∧ es.size = qc (fun k => ((pr m).f k).isSome) n := by
            rcases HMx.out with ⟨h0, _⟩ | ⟨mb', f, h0, ⟨es, clock, h1, _, h2⟩, _⟩
            · rw [HMo.out.1] at h0; cases h0
            · rw [HMo.out.1] at h0; cases h0; exact ⟨es, clock, h1, h2⟩
          have hlen := run_lenMap hes
          have hle := qc_le (fun k => ((pr m).f k).isSome) n
          have hsn : es.size ≤ 7 := by have := HN.out; omega
          have HSz := Lib.hid (And.intro hsz hes)
          clear hsz hle hes
          have hs0 : (0 : Int) ≤ (es.size : Int) := by omega
          have hs7 : (es.size : Int) ≤ 7 := by omega
          by_cases hq : 2 * (es.size : Int) ≤ (n : Int)
          · go_wp2_with fail
            go_roundw
            case rel => exact ⟨j + 1, Af, cf, fl, so, by go_num, rfl, rfl, by have := HJ.out; omega, by have := HJ.out; omega, HMid.out _ HC.out.2.1 HC.out.2.2.1⟩
            case measure => simp [intOf]; omega
          · have HQ : Hid (n < 2 * qc (fun k => ((pr m).f k).isSome) n) := by have := HSz.out.1; show _ < _; omega
            go_upto_if 123 with (fail)
            clear q0 q1 hlen
            go_cut [19] from 124 to 154 (fun _ wx => ∃ (pr2 : Nat → Prp) (val2 : Bal → List UInt8) (asked2 : Bal → Prop), Hid (AM w n w.heap.size (w.heap.size + 1) (w.heap.size + 1 + 1) acc pr2 mp seen wx ∧ Inv n acc pr2 seen V val2 asked2 ∧ (pr2 m).asked = true ∧ BO wx (.slice Af fl.length cf) fl ∧ wx.heap[wL.heap.size]? = some (.cells (stepC ⟨xm, true, xt, xv⟩) 37 (0, 0)) ∧ (so = true → ∃ b, Chos n V b ∧ val2 b = fl)))
            case first =>
              cases ak with
              | true =>
                go_wp2_with fail
                go_meet
                exact ⟨pr, val, asked, HC.out.2.1, HC.out.2.2.2.1, HMo.out.2, HC.out.2.2.1, HC.out.1, HC.out.2.2.2.2.2⟩
              | false =>
                have HMade : Hid ((W1.alloc (.cells #[] 26)).ownsRow W1.heap.size 26 5 (.slice (some ⟨W1.heap.size, 0, none⟩) 0 0) 0 [] ∧ Below W1.heap.size W1 (W1.alloc (.cells #[] 26))) := ⟨World.ownsRow_made W1 #[] 0 (Nat.le_refl _) (by unfold maxLen; omega) rfl, below_alloc _ _⟩
                go_wp2_with fail
                go_loopw [19, 20] (fun t k wr => ∃ (q : Nat) (L : List (Acc × Value)) (A : Option Addr) (c : Nat), k = .int .i64 q ∧ q ≤ n ∧ t = .slice A L.length c ∧ Hid (L.map Prod.fst = told (pr m).f q ∧ wr.ownsRow W1.heap.size 26 5 (.slice A L.length c) L.length (cellsA L) ∧ Below W1.heap.size W1 wr ∧ ToldOk wr L ∧ L.length ≤ q)) (fun _ k _ => n - (intOf k).toNat)
                case atStart => exact ⟨0, [], _, 0, rfl, Nat.zero_le _, rfl, rfl, HMade.out.1, HMade.out.2, (fun p hp => by cases hp), Nat.le_refl _⟩
                case round =>
                  obtain ⟨q, L, At, ct, rfl, hqn, rfl, HL⟩ := hrel
                  obtain ⟨wT, rfl⟩ : ∃ wo : World, wo = wr := ⟨_, rfl⟩
                  clear HMade
                  by_cases hlt : q < n
                  · have j1 : (q : Int) < (n : Int) := by omega
                    have j7 : (q : Int) < 7 := by have := HN.out; omega
                    have hAMt := HC.out.2.1.go HL.out.2.2.1
                    obtain ⟨_, _, _, _, p2, _, _, _, _⟩ := hAMt.prCells HJ.out.2.2.2
                    rw [HMo.out.1] at p2
                    have hLn : L.length ≤ 7 := by have h1 := HL.out.2.2.2.2; have h2 := HN.out; omega
                    have HLn := Lib.hid hLn
                    rcases hAMt.lookUp HJ.out.2.2.2 HMo.out.1 (k := q) (by have := HN.out; omega) with ⟨hf, hlk⟩ | ⟨x, A, c, hf, hbo, hlk⟩
                    · have HT : Hid (told (pr m).f (q + 1) = told (pr m).f q) := by show told (pr m).f q ++ _ = _; rw [hf]; simp
                      clear hAMt hf hLn
                      go_wp2_with fail
                      go_roundw
                      case rel => exact ⟨q + 1, L, At, ct, by go_num, by omega, rfl, by rw [HT.out]; exact HL.out.1, own_below HL.out.2.1 (below_alloc _ _), HL.out.2.2.1.trans ((below_alloc _ _).mono HL.out.2.2.1.size), HL.out.2.2.2.1.keep (KeepU.below (below_alloc _ _)), by have := HL.out.2.2.2.2; omega⟩
                      case measure => simp [intOf]; omega
                    · have HT : Hid (told (pr m).f (q + 1) = told (pr m).f q ++ [x]) := by show told (pr m).f q ++ _ = _; rw [hf]
                      have HBo := Lib.hid hbo
                      clear hAMt hf hLn hbo
                      go_upto_region 34 with (fail)
                      obtain ⟨WB, hWB⟩ : ∃ WB, WB = wT.alloc (.cells #[.int .i64 x.p.r, .int .i64 x.p.m, .int .i64 x.a.r, .int .i64 x.a.m, .slice A x.l.length c] 26) := ⟨_, rfl⟩
                      rw [← hWB]
                      have hbB : Below wT.heap.size wT WB := by rw [hWB]; exact below_alloc _ _
                      have hnB : WB.heap[wT.heap.size]? = some (.cells #[.int .i64 x.p.r, .int .i64 x.p.m, .int .i64 x.a.r, .int .i64 x.a.m, .slice A x.l.length c] 26 (0, 0)) := by rw [hWB]; exact heap_alloc_new wT _
                      obtain ⟨z0, z1, z2, z3, z4, _⟩ := cells5 hnB
                      have HWB := Lib.hid (And.intro hbB (And.intro (own_below HL.out.2.1 hbB) (HL.out.2.2.1.trans (hbB.mono HL.out.2.2.1.size))))
                      clear hWB hbB hnB p2 hlk
                      go_wp2_with (at_builtin; refine Own.append_one HWB.out.2.1 HWB.out.2.2 Try.underlying34 infoAcc rfl (by decide) (accVs x (.slice A x.l.length c)) rfl (accVs_one x A x.l.length c) (Nat.le_refl _) HWB.out.2.2.size (by have := HLn.out; omega) (by have := HLn.out; omega) rfl rfl rfl rfl ?_; intro v1 w1 hown1 hbel1 hgr1 _ _)
                      have HKu : Hid (KeepU WB w1) := KeepU.grown HWB.out.2.1 (by decide) hgr1
                      clear hgr1
                      obtain ⟨A1, c1, hv1⟩ := own_slice hown1
                      subst hv1
                      have HN1 := Lib.hid (And.intro hown1 hbel1)
                      clear hown1 hbel1
                      go_roundw
                      case rel =>
                        refine ⟨q + 1, L ++ [(x, .slice A x.l.length c)], A1, c1, by go_num, by omega, by rw [List.length_append]; rfl, ?_, ?_, HN1.out.2, ?_, ?_⟩
                        · rw [HT.out, List.map_append, HL.out.1]; rfl
                        · rw [cellsA_snoc, List.length_append]; exact HN1.out.1
                        · intro p hp
                          have hku : KeepU wT w1 := (KeepU.below HWB.out.1).trans HKu.out
                          rcases List.mem_append.1 hp with hp | hp
                          · exact (HL.out.2.2.2.1.keep hku) p hp
                          · obtain rfl := List.mem_singleton.1 hp
                            exact ⟨A, c, rfl, HBo.out.keep hku⟩
                        · rw [List.length_append]; have := HL.out.2.2.2.2; simp; omega
                      case measure => simp [intOf]; omega
                  · have j1 : ¬ (q : Int) < (n : Int) := by omega
                    have hqe : q = n := by omega
                    have hAMt := HC.out.2.1.go HL.out.2.2.1
                    obtain ⟨_, _, _, _, _, p3, p4, pf, _⟩ := hAMt.prCells HJ.out.2.2.2
                    have hstx := (HL.out.2.2.1.block _ (Array.getElem?_eq_some_iff.1 HC.out.1).1).trans HC.out.1
                    obtain ⟨f0, f1, f2, f3⟩ := cells4 hstx
                    have hrd := reads_told HL.out.2.1 HL.out.2.2.2.1
                    have hfst := HL.out.1
                    rw [hqe] at hfst
                    rw [hfst] at hrd
                    have hlenT : L.length = (told (pr m).f n).length := by rw [← hfst, List.length_map]
                    have hprom : ∀ x ∈ told (pr m).f n, x.l.length ≤ 140737488351232 := fun x hx => by
                      obtain ⟨k, _, hk⟩ := (told_mem _ _ _).1 hx
                      have := (HC.out.2.2.2.1.prom m HJ.out.2.2.2 k x hk).2.2.2.2.2.1
                      omega
                    have hL7 : (told (pr m).f n).length ≤ 7 := by rw [← hlenT]; have h1 := HL.out.2.2.2.2; have h2 := HN.out; omega
                    obtain ⟨val2, asked2, hInv2, hask2, hpl, hold⟩ := HC.out.2.2.2.1.asks HJ.out.2.2.2 HMo.out.2 HQ.out [xv] (Nat.le_refl _)
                    have HPk : Hid (∀ W, Below wT.heap.size wT W → ∀ ov, ReadsB W ov [xv] → Calls Try.prog 12 #[.slice At L.length ct, ov] W (PickPost (pickL (told (pr m).f n) [xv]) W)) := fun W hW ov hov =>
                      pick_any _ ov _ [xv] W (hrd.below hW) hprom hov (by simp) (by omega)
                    have HT := Lib.hid (And.intro hAMt (And.intro hstx (And.intro hInv2 (And.intro hask2 hold))))
                    clear hAMt hstx hrd hfst hlenT hprom hL7 hInv2 hask2 hpl hold hqe
                    have HRv : Hid (ReadsB (wT.alloc (.cells #[.int .u8 (xv.toNat : Int)] 5)) (.slice (some ⟨wT.heap.size, 0, none⟩) 1 1) [xv] ∧ Below wT.heap.size wT (wT.alloc (.cells #[.int .u8 (xv.toNat : Int)] 5))) := by
                      refine ⟨.inr ⟨⟨wT.heap.size, 0, none⟩, 1, rfl, fun j' u hu => ?_⟩, below_alloc _ _⟩
                      have hj : j' < 1 := by have := (List.getElem?_eq_some_iff.1 hu).1; simpa [u8s] using this
                      obtain rfl : j' = 0 := by omega
                      rw [Addr.add_lit, Nat.zero_add, cell_of_row _ _ 0 _ _ (0, 0) (heap_alloc_new wT _)]
                      exact hu
                    generalize pickL (told (pr m).f n) [xv] = pl at *
                    go_wp2_with (go_at_call 12; (with_reducible refine (HPk.out _ HRv.out.2 _ HRv.out.1).mono ?_); rintro e w9 ⟨A9, c9, rfl, ho9, hb9⟩; have hb9' := HRv.out.2.trans (hb9.mono HRv.out.2.size); obtain ⟨_, _, _, _, _, p3, p4, pf, _⟩ := (HT.out.1.go hb9').prCells HJ.out.2.2.2; have H9 := Lib.hid (And.intro (own_mono ho9 (Nat.zero_le _)) hb9'); clear ho9 hb9 hb9')
                    go_meet
                    obtain ⟨hA9, hk9⟩ := (HT.out.1.go H9.out.2).ask HJ.out.2.2.2 pl H9.out.1
                    have hst9 := (H9.out.2.block _ (Array.getElem?_eq_some_iff.1 HT.out.2.1).1).trans HT.out.2.1
                    obtain ⟨cpp, hpp⟩ := (HT.out.1.go H9.out.2).prs.row
                    refine ⟨_, val2, asked2, hA9, HT.out.2.2.1, by rw [upd_same], (HC.out.2.2.1.keep (KeepU.below (HL.out.2.2.1.trans (H9.out.2.mono HL.out.2.2.1.size)))).keep hk9, ?_, fun h => ?_⟩
                    · exact ((Below.heap_setCell _ _ _ _ (ne_rows hst9 hpp (by decide))).trans (Below.heap_setCell _ _ _ _ (ne_rows hst9 hpp (by decide)))).trans hst9
                    · obtain ⟨b, h1, h2⟩ := HC.out.2.2.2.2.2 h
                      exact ⟨b, h1, (HT.out.2.2.2.2 b (HC.out.2.2.2.1.chosAsked h1)).2.trans h2⟩
            case rest =>
              obtain ⟨pr2, val2, asked2, HR⟩ := hcut
              go_wp2_with fail
              go_loopw [23] (fun k wr => ∃ (q : Nat) (acc2 : Nat → Acc) (V2 : Nat → Bal → Prop), k = .int .i64 q ∧ q ≤ n ∧ Hid (AM w n w.heap.size (w.heap.size + 1) (w.heap.size + 1 + 1) acc2 pr2 mp seen wr ∧ Inv n acc2 pr2 seen V2 val2 asked2 ∧ BO wr (.slice Af fl.length cf) fl ∧ wr.heap[wL.heap.size]? = some (.cells (stepC ⟨xm, true, xt, xv⟩) 37 (0, 0)) ∧ (so = true → ∃ b, Chos n V2 b ∧ val2 b = fl))) (fun k _ => n - (intOf k).toNat)
              case atStart => exact ⟨0, acc, V, rfl, Nat.zero_le _, HR.out.1, HR.out.2.1, HR.out.2.2.2.1, HR.out.2.2.2.2.1, HR.out.2.2.2.2.2⟩
              case round =>
                obtain ⟨q, acc2, V2, rfl, hqn, HL⟩ := hrel
                obtain ⟨wA, rfl⟩ : ∃ wo : World, wo = wr := ⟨_, rfl⟩
                obtain ⟨f0, f1, f2, f3⟩ := cells4 HL.out.2.2.2.1
                by_cases hlt : q < n
                · have j1 : (q : Int) < (n : Int) := by omega
                  have j0 : (0 : Int) ≤ (q : Int) := by omega
                  have j7 : (q : Int) < 7 := by have := HN.out; omega
                  go_upto_block 7 with (fail)
                  go_cut [23] from 158 to 185 (fun k wx => ∃ (acc3 : Nat → Acc) (V3 : Nat → Bal → Prop), k = .int .i64 q ∧ Hid (AM w n w.heap.size (w.heap.size + 1) (w.heap.size + 1 + 1) acc3 pr2 mp seen wx ∧ Inv n acc3 pr2 seen V3 val2 asked2 ∧ BO wx (.slice Af fl.length cf) fl ∧ wx.heap[wL.heap.size]? = some (.cells (stepC ⟨xm, true, xt, xv⟩) 37 (0, 0)) ∧ (so = true → ∃ b, Chos n V3 b ∧ val2 b = fl)))
                  case first =>
                    cases hB : ((xt / 2 ^ q).tmod 2 == 1) with
                    | false =>
                      go_wp2_with fail
                      go_meet
                      exact ⟨acc2, V2, rfl, HL.out⟩
                    | true =>
                      go_upto_region 41 with (fail)
                      clear f0 f1 f2 f3 hB
                      obtain ⟨Aa, ca, a0, a1, a2, a3, a4, af, hba⟩ := HL.out.1.accCells hlt
                      obtain ⟨Ap, cp, q0, q1, _, q3, _, _, hbp⟩ := HL.out.1.prCells HJ.out.2.2.2
                      have hac := HL.out.2.1.ac q hlt
                      have hvl := (HL.out.2.1.ask m HJ.out.2.2.2 HR.out.2.2.1).2.2
                      have HInv := Lib.hid (HL.out.2.1.accepts hlt HJ.out.2.2.2 HR.out.2.2.1)
                      have HAcc : Hid (∀ W, Below wA.heap.size wA W → Calls Try.prog 8 #[.agg #[.int .i64 (acc2 q).p.r, .int .i64 (acc2 q).p.m, .int .i64 (acc2 q).a.r, .int .i64 (acc2 q).a.m, .slice Aa (acc2 q).l.length ca], .agg #[.int .i64 (pr2 m).b.r, .int .i64 (pr2 m).b.m], .slice Ap (pr2 m).v.length cp] W fun e w' => ∃ A' c' ok, e = .returned (.tuple #[.agg #[.int .i64 (accY (acc2 q) (pr2 m).b (pr2 m).v).p.r, .int .i64 (accY (acc2 q) (pr2 m).b (pr2 m).v).p.m, .int .i64 (accY (acc2 q) (pr2 m).b (pr2 m).v).a.r, .int .i64 (accY (acc2 q) (pr2 m).b (pr2 m).v).a.m, .slice A' (accY (acc2 q) (pr2 m).b (pr2 m).v).l.length c'], .bool ok]) ∧ BO w' (.slice A' (accY (acc2 q) (pr2 m).b (pr2 m).v).l.length c') (accY (acc2 q) (pr2 m).b (pr2 m).v).l ∧ Below W.heap.size W w') := fun W hW => by
                        refine (accept_any _ _ _ _ (pr2 m).b.r (pr2 m).b.m Aa (acc2 q).l ca (.slice Ap (pr2 m).v.length cp) (pr2 m).v W ((ReadsB.own hba).below hW) (by omega) ((ReadsB.own hbp).below hW) (by omega)).mono ?_
                        rintro e w' ⟨A', c', rfl, ho, hb⟩
                        exact ⟨A', c', _, rfl, own_mono ho (Nat.zero_le _), hb⟩
                      have HAc := Lib.hid (fun W (hW : Below wA.heap.size wA W) => (HL.out.1.go hW).accs.row)
                      have HCell : Hid (∀ W, Below wA.heap.size wA W → W.cell? ⟨w.heap.size, q * 5, none⟩ = some (.int .i64 (acc2 q).p.r) ∧ W.cell? ⟨w.heap.size, q * 5 + 1, none⟩ = some (.int .i64 (acc2 q).p.m) ∧ W.cell? ⟨w.heap.size, q * 5 + 2, none⟩ = some (.int .i64 (acc2 q).a.r) ∧ W.cell? ⟨w.heap.size, q * 5 + 3, none⟩ = some (.int .i64 (acc2 q).a.m) ∧ W.cell? ⟨w.heap.size, q * 5 + 4, none⟩ = some (.slice Aa (acc2 q).l.length ca) ∧ (∀ i, W.frozen? ⟨w.heap.size, i, none⟩ = false)) := fun W hW => by
                        have t : ∀ bk o u, wA.cell? ⟨bk, o, none⟩ = some u → W.cell? ⟨bk, o, none⟩ = some u := fun bk o u hu => (hW.cell (World.block_lt_of_cell? wA _ hu)).trans hu
                        obtain ⟨cs, hc⟩ := HAc.out W hW
                        exact ⟨t _ _ _ a0, t _ _ _ a1, t _ _ _ a2, t _ _ _ a3, t _ _ _ a4, fun i => frozen_of_block hc i⟩
                      generalize accY (acc2 q) (pr2 m).b (pr2 m).v = z at *
                      generalize acc2 q = y at *
                      generalize (pr2 m).b = bb at *
                      generalize (pr2 m).v = vv at *
                      have HD : Hid (Below wA.heap.size wA wA.drew) := (Below.refl _ _).drew
                      clear hba hbp hac hvl
                      go_region_law (first
                        | (go_simp; go_at_call 8; refine (HAcc.out _ HD.out).mono ?_; rintro e w5 ⟨A5, c5, ok5, rfl, ho5, hb5⟩; have hb5' := HD.out.trans (hb5.mono HD.out.size); obtain ⟨a0, a1, a2, a3, a4, af⟩ := HCell.out _ hb5'; have H5 := Lib.hid (And.intro ho5 hb5'); clear ho5 hb5 hb5'))
                      all_goals
                        go_wp2_with fail
                        go_meet
                        obtain ⟨hA6, hk6⟩ := (HL.out.1.go H5.out.2).setAcc hlt z H5.out.1
                        have hst6 := (H5.out.2.block _ (Array.getElem?_eq_some_iff.1 HL.out.2.2.2.1).1).trans HL.out.2.2.2.1
                        obtain ⟨csa, hcsa⟩ := (HL.out.1.go H5.out.2).accs.row
                        refine ⟨upd acc2 q z, _, rfl, hA6, HInv.out, (HL.out.2.2.1.keep (KeepU.below H5.out.2)).keep hk6, (heap_setCells_other (b := w.heap.size) (accVs z (.slice A5 z.l.length c5)) (q * 5) w5 wL.heap.size (ne_rows hst6 hcsa (by decide))).trans hst6, fun h => ?_⟩
                        obtain ⟨b, ⟨K, hK, hV⟩, h2⟩ := HL.out.2.2.2.2 h
                        exact ⟨b, ⟨K, hK, fun k hk hKk => .inl (hV k hk hKk)⟩, h2⟩
                  case rest =>
                    obtain ⟨acc3, V3, rfl, HL3⟩ := hcut
                    go_wp2_with fail
                    go_roundw
                    case rel => exact ⟨q + 1, acc3, V3, by go_num, by omega, HL3.out⟩
                    case measure => simp [intOf]; omega
                · have j1 : ¬ (q : Int) < (n : Int) := by omega
                  have HCh := Lib.hid (chosen_any (.slice (some ⟨w.heap.size, 0, none⟩) n n) ((List.range n).map acc2) wA HL.out.1.accs.reads (accs_ok HL.out.2.1) (by have := HN.out; simp; omega))
                  clear f0 f1 f2 f3
                  go_upto_region 43 with (go_at_call 13; (with_reducible refine HCh.out.mono ?_); rintro e w9 ⟨b9, A9, n9, c9, ok9, rfl, hb9, hok9⟩; have H9 := Lib.hid (And.intro hb9 hok9); clear hb9 hok9)
                  obtain ⟨W9, hW9⟩ : ∃ W9, W9 = w9.alloc (.cells #[.int .i64 b9.r, .int .i64 b9.m] 23) := ⟨_, rfl⟩
                  rw [← hW9]
                  have h99 : Below w9.heap.size w9 W9 := by rw [hW9]; exact below_alloc _ _
                  have hA9 : Below wA.heap.size wA W9 := H9.out.1.trans (h99.mono H9.out.1.size)
                  have HW9 := Lib.hid (And.intro h99 hA9)
                  have HEnd : Hid (∀ fv' fl' so', BO W9 fv' fl' → (so' = true → ∃ b, Chos n V2 b ∧ val2 b = fl') → OS w n (j + 1) fv' fl' so' W9) := fun fv' fl' so' h1 h2 => ⟨acc2, pr2, mp, seen, V2, val2, asked2, HL.out.1.go HW9.out.2, HL.out.2.1, by have := HC.out.2.2.2.2.1; omega, h1, h2⟩
                  have HFo : Hid (BO W9 (.slice Af fl.length cf) fl) := HL.out.2.2.1.keep (KeepU.below hA9)
                  clear hW9 h99 hA9
                  cases ok9 with
                  | false =>
                    go_wp2_with fail
                    go_roundw
                    case rel => exact ⟨j + 1, Af, cf, fl, so, by go_num, rfl, rfl, by have := HJ.out; omega, by have := HJ.out; omega, HEnd.out _ _ _ HFo.out HL.out.2.2.2.2⟩
                    case measure => simp [intOf]; omega
                  | true =>
                    obtain ⟨hmaj, y, hy, hya, hn9, hoy⟩ := H9.out.2 rfl
                    obtain ⟨hch, hval⟩ := maj_chosen HL.out.2.1 hmaj hy hya
                    subst hn9
                    have HNew : Hid (BO W9 (.slice A9 y.l.length c9) y.l ∧ Chos n V2 b9 ∧ val2 b9 = y.l) := ⟨BO.keep (own_mono hoy (Nat.zero_le _)) (KeepU.below HW9.out.1), hch, hval⟩
                    clear hmaj hy hya hoy hch hval
                    cases so with
                    | false =>
                      go_wp2_with fail
                      go_roundw
                      case rel => exact ⟨j + 1, A9, c9, y.l, true, by go_num, rfl, rfl, by have := HJ.out; omega, by have := HJ.out; omega, HEnd.out _ _ _ HNew.out.1 (fun _ => ⟨b9, HNew.out.2.1, HNew.out.2.2⟩)⟩
                      case measure => simp [intOf]; omega
                    | true =>
                      have hfl : y.l = fl := by
                        obtain ⟨b1, h1, h2⟩ := HL.out.2.2.2.2 rfl
                        rw [← h2, ← HNew.out.2.2]
                        exact HL.out.2.1.agree HNew.out.2.1 h1
                      have u1 := conv_reads (ReadsB.own HNew.out.1)
                      have u2 := conv_reads (ReadsB.own HFo.out)
                      rw [hfl] at u1 HNew
                      rw [hfl]
                      clear hfl
                      go_wp2_with fail
                      go_roundw
                      case rel => exact ⟨j + 1, A9, c9, fl, true, by go_num, rfl, rfl, by have := HJ.out; omega, by have := HJ.out; omega, HEnd.out _ _ _ HNew.out.1 (fun _ => ⟨b9, HNew.out.2.1, HNew.out.2.2⟩)⟩
                      case measure => simp [intOf]; omega
    · have hx : ¬ (j : Int) < (xs.length : Int) ∨ ((j : Int) < (xs.length : Int) ∧ ¬ (j : Int) < 300) := by omega
      have hbw : Below w.heap.size w wL := by obtain ⟨_, _, _, _, _, _, _, h, _⟩ := HO.out; exact h.below
      have HB := Lib.hid hbw
      clear hlt hbw
      rcases hx with h1 | ⟨h1, h2⟩
      all_goals
        go_wp2_with (go_at_call 10; refine (awake_any _).mono ?_; rintro e w9 ⟨rfl, hb9⟩)
        go_ret
        exact ⟨rfl, HB.out.trans (hb9.mono HB.out.size)⟩
end Go.Proofs.Ytaopfgoofhojeaa
