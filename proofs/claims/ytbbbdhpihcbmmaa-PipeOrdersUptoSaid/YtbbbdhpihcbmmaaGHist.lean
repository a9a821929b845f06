/- What CheckHistory keeps: who began, who ended, how often a name. The walk of CheckHistory. The walk of CheckHistory: why a history may not be. -/
import Derived.Test.YtbbbdhpihcbmmaaPEv
import Derived.Test.YtbbbdhpihcbmmaaGBase
import Derived.StringKeys
import Derived.DeepKeys4
namespace Go.Proofs.Ytbbbdhpihcbmmaa
open Go.RowKit Own
open Go.Maps (Keyed)

theorem laidOut : laidOutB Try.prog = true := by kernel_rfl
theorem rowKey : (42 : TypeId) < Try.prog.types.size := of_decide_eq_true (by kernel_rfl)
theorem wideKey : (match Try.prog.underlying 42 with | some (.array _ _) | some (.struct _) => true | _ => false) = true := by kernel_rfl
theorem keyedKey : Keyed Try.prog 42 := Keyed.of_law (deep_law_laid laidOut (m := 2) (by omega) rowKey (by kernel_rfl) wideKey)
theorem keyedStr : Keyed Try.prog 9 := Keyed.of_law (Go.WideMaps.string_law Try.underlying9)
def K2 (a b : Int) : Value := .agg #[.int .i64 a, .int .i64 b]
theorem K2_inj {a b c d : Int} : K2 a b = K2 c d ↔ a = c ∧ b = d := by simp [K2]
theorem keyKey {a b : Int} (ha : (Lit.int .i64 a).wf = true) (hb : (Lit.int .i64 b).wf = true) : ∃ kl, keyOf Try.prog 42 (K2 a b) = some kl := by
  have h1 : Try.prog.keyType 42 = true := by kernel_rfl
  have h2 : Try.prog.cellsOf 42 = 2 := by kernel_rfl
  have h3 : Try.prog.cellsOf 3 = 1 := by kernel_rfl
  obtain ⟨n, hn⟩ : ∃ n, Try.prog.types.size = n + 1 := ⟨Try.prog.types.size - 1, (Nat.succ_pred_eq_of_pos (Nat.lt_of_le_of_lt (Nat.zero_le _) rowKey)).symm⟩
  simp only [keyOf, Try.underlying42, h1, Value.formed, h2, K2, Value.cells, hn]
  have e : Try.prog.keyLits (n + 1 + 1) 42 [.int .i64 a, .int .i64 b] = some [.int .i64 a, .int .i64 b] := by
    simp [Program.keyLits, Try.underlying42, Try.underlying3, h2, h3, ha, hb]
  simp [e]
theorem keyStr (s : ByteArray) (hs : s.size ≤ 140737488351232) : ∃ kl, keyOf Try.prog 9 (.string s) = some kl := by
  have hsz : s.size ≤ maxLen := by simp [maxLen]; omega
  simp [keyOf, mapKey, Try.underlying9, hsz]

/-- a map that tells who is among some -/
def KeySet (f : Value → Option Value) (B : List (Int × Int)) : Prop := ∀ a b, f (K2 a b) = if (a, b) ∈ B then some (.bool true) else none
theorem KeySet.nil : KeySet noKeys [] := fun _ _ => rfl
theorem KeySet.add {f : Value → Option Value} {B : List (Int × Int)} (h : KeySet f B) (a b : Int) : KeySet (putKey f (K2 a b) (.bool true)) ((a, b) :: B) := fun c d => by
  by_cases hc : c = a ∧ d = b
  · obtain ⟨rfl, rfl⟩ := hc
    rw [putKey_same, if_pos (by simp)]
  · rw [putKey_other _ _ (fun e => hc (K2_inj.1 e)), h]
    have : (c, d) ∈ (a, b) :: B ↔ (c, d) ∈ B := by
      rw [List.mem_cons, Prod.mk.injEq]
      exact ⟨fun h => h.resolve_left hc, .inr⟩
    by_cases hm : (c, d) ∈ B
    · rw [if_pos hm, if_pos (this.2 hm)]
    · rw [if_neg hm, if_neg (fun h => hm (this.1 h))]
/-- a map that counts names -/
def CntMap (f : Value → Option Value) (N : List ByteArray) : Prop := ∀ s, (f (.string s)).getD (.int .i64 0) = .int .i64 ((N.filter (fun t => decide (t = s))).length : Int)
theorem CntMap.nil : CntMap noKeys [] := fun _ => rfl
theorem CntMap.add {f : Value → Option Value} {N : List ByteArray} (h : CntMap f N) (s : ByteArray) : CntMap (putKey f (.string s) (.int .i64 (((s :: N).filter (fun t => decide (t = s))).length : Int))) (s :: N) := fun t => by
  by_cases hc : t = s
  · subst hc
    rw [putKey_same]; rfl
  · rw [putKey_other _ _ (fun e => hc (Value.string.inj e)), h, List.filter_cons_of_neg (by simp; exact fun e => hc e.symm)]

/-- the state -/
structure CS where
  bs : List (Int × Int)
  es : List (Int × Int)
  ns : List ByteArray
  most : Nat
def cntN (N : List ByteArray) (s : ByteArray) : Nat := (N.filter (fun t => decide (t = s))).length
def csOk (st : CS) (x : EvIn) : Bool := if x.done then decide ((x.kc, x.ks) ∈ st.bs) && (!(decide ((x.kc, x.ks) ∈ st.es)) && (zeroB x.call && (!x.unk || silentB x.rep))) else !(decide ((x.kc, x.ks) ∈ st.bs)) && (!x.unk && (decide (MayC x.call) && silentB x.rep))
def csStep (st : CS) (x : EvIn) : CS := if x.done then { st with es := (x.kc, x.ks) :: st.es, bs := (x.kc, x.ks) :: st.bs } else { st with ns := x.call.s :: st.ns, most := max st.most (cntN (x.call.s :: st.ns) x.call.s), bs := (x.kc, x.ks) :: st.bs }
def csRun : List EvIn → CS → Option CS
  | [], st => some st
  | x :: xs, st => if csOk st x = true then csRun xs (csStep st x) else none
def chkH (xs : List EvIn) : Int := if 64 < xs.length then 3 else match csRun xs ⟨[], [], [], 0⟩ with | none => 1 | some st => if 8 < st.most then 2 else 0

structure CH (w0 : World) (m1 m2 m3 n : Nat) (st : CS) (w : World) : Prop where
  a1 : ∃ f, MapIs Try.prog 42 m1 n f w ∧ KeySet f st.bs
  a2 : ∃ f, MapIs Try.prog 42 m2 n f w ∧ KeySet f st.es
  a3 : ∃ f, MapIs Try.prog 9 m3 n f w ∧ CntMap f st.ns
  n12 : m1 ≠ m2
  n13 : m1 ≠ m3
  n23 : m2 ≠ m3
  g1 : w0.heap.size ≤ m1
  g2 : w0.heap.size ≤ m2
  g3 : w0.heap.size ≤ m3
  below : Below w0.heap.size w0 w
section
variable {w0 w w' : World} {m1 m2 m3 n : Nat} {st : CS}
theorem CH.go (h : CH w0 m1 m2 m3 n st w) (hb : Below w.heap.size w w') : CH w0 m1 m2 m3 n st w' := by
  obtain ⟨f1, q1, r1⟩ := h.a1
  obtain ⟨f2, q2, r2⟩ := h.a2
  obtain ⟨f3, q3, r3⟩ := h.a3
  exact ⟨⟨f1, q1.same (hb.block _ q1.lt), r1⟩, ⟨f2, q2.same (hb.block _ q2.lt), r2⟩, ⟨f3, q3.same (hb.block _ q3.lt), r3⟩, h.n12, h.n13, h.n23, h.g1, h.g2, h.g3, h.below.trans (hb.mono h.below.size)⟩
theorem zeroBool (w : World) : (zeroValue 4).run Try.prog w = .ok (.bool false) w := by kernel_rfl
theorem zeroInt (w : World) : (zeroValue 3).run Try.prog w = .ok (.int .i64 0) w := by kernel_rfl
theorem CH.look1 (h : CH w0 m1 m2 m3 n st w) {a b : Int} (ha : (Lit.int .i64 a).wf = true) (hb : (Lit.int .i64 b).wf = true) : (Instr.lookup 70 (.map (some m1)) (K2 a b) false).run Try.prog w = .ok (.bool (decide ((a, b) ∈ st.bs))) w := by
  obtain ⟨f, q, r⟩ := h.a1
  obtain ⟨kl, hk⟩ := keyKey ha hb
  have := q.look keyedKey Try.underlying70 (zeroBool w) hk
  rw [this, r]
  by_cases hm : (a, b) ∈ st.bs
  · rw [if_pos hm]; simp [hm]
  · rw [if_neg hm]; simp [hm]
theorem CH.look2 (h : CH w0 m1 m2 m3 n st w) {a b : Int} (ha : (Lit.int .i64 a).wf = true) (hb : (Lit.int .i64 b).wf = true) : (Instr.lookup 70 (.map (some m2)) (K2 a b) false).run Try.prog w = .ok (.bool (decide ((a, b) ∈ st.es))) w := by
  obtain ⟨f, q, r⟩ := h.a2
  obtain ⟨kl, hk⟩ := keyKey ha hb
  have := q.look keyedKey Try.underlying70 (zeroBool w) hk
  rw [this, r]
  by_cases hm : (a, b) ∈ st.es
  · rw [if_pos hm]; simp [hm]
  · rw [if_neg hm]; simp [hm]
theorem CH.look3 (h : CH w0 m1 m2 m3 n st w) (s : ByteArray) (hs : s.size ≤ 140737488351232) : (Instr.lookup 36 (.map (some m3)) (.string s) false).run Try.prog w = .ok (.int .i64 (cntN st.ns s : Int)) w := by
  obtain ⟨f, q, r⟩ := h.a3
  obtain ⟨kl, hk⟩ := keyStr s hs
  have := q.look keyedStr Try.underlying36 (zeroInt w) hk
  rw [this, r]
  rfl
theorem CH.put1 (h : CH w0 m1 m2 m3 n st w) {a b : Int} (ha : (Lit.int .i64 a).wf = true) (hb : (Lit.int .i64 b).wf = true) : ∃ w', (Instr.mapUpdate 70 (.map (some m1)) (K2 a b) (.bool true)).run Try.prog w = .ok () w' ∧ Chg [m1] w w' ∧ CH w0 m1 m2 m3 (n + 1) { st with bs := (a, b) :: st.bs } w' := by
  obtain ⟨f, q, r⟩ := h.a1
  obtain ⟨f2, q2, r2⟩ := h.a2
  obtain ⟨f3, q3, r3⟩ := h.a3
  obtain ⟨kl, hk⟩ := keyKey ha hb
  obtain ⟨w', h1, h2, h3⟩ := q.store (val := .bool true) keyedKey Try.underlying70 hk
  exact ⟨w', h1, h3, ⟨_, h2, r.add a b⟩, ⟨f2, (q2.chg h3 (by simpa using h.n12.symm)).mono (by omega), r2⟩, ⟨f3, (q3.chg h3 (by simpa using h.n13.symm)).mono (by omega), r3⟩, h.n12, h.n13, h.n23, h.g1, h.g2, h.g3, h.below.trans (h3.below h.below.size (by simpa using h.g1))⟩
theorem CH.put2 (h : CH w0 m1 m2 m3 n st w) {a b : Int} (ha : (Lit.int .i64 a).wf = true) (hb : (Lit.int .i64 b).wf = true) : ∃ w', (Instr.mapUpdate 70 (.map (some m2)) (K2 a b) (.bool true)).run Try.prog w = .ok () w' ∧ Chg [m2] w w' ∧ CH w0 m1 m2 m3 (n + 1) { st with es := (a, b) :: st.es } w' := by
  obtain ⟨f, q, r⟩ := h.a1
  obtain ⟨f2, q2, r2⟩ := h.a2
  obtain ⟨f3, q3, r3⟩ := h.a3
  obtain ⟨kl, hk⟩ := keyKey ha hb
  obtain ⟨w', h1, h2, h3⟩ := q2.store (val := .bool true) keyedKey Try.underlying70 hk
  exact ⟨w', h1, h3, ⟨f, (q.chg h3 (by simpa using h.n12)).mono (by omega), r⟩, ⟨_, h2, r2.add a b⟩, ⟨f3, (q3.chg h3 (by simpa using h.n23.symm)).mono (by omega), r3⟩, h.n12, h.n13, h.n23, h.g1, h.g2, h.g3, h.below.trans (h3.below h.below.size (by simpa using h.g2))⟩
theorem CH.put3 (h : CH w0 m1 m2 m3 n st w) (s : ByteArray) (hs : s.size ≤ 140737488351232) (m : Nat) : ∃ w', (Instr.mapUpdate 36 (.map (some m3)) (.string s) (.int .i64 (cntN (s :: st.ns) s : Int))).run Try.prog w = .ok () w' ∧ Chg [m3] w w' ∧ CH w0 m1 m2 m3 (n + 1) { st with ns := s :: st.ns, most := m } w' := by
  obtain ⟨f, q, r⟩ := h.a1
  obtain ⟨f2, q2, r2⟩ := h.a2
  obtain ⟨f3, q3, r3⟩ := h.a3
  obtain ⟨kl, hk⟩ := keyStr s hs
  obtain ⟨w', h1, h2, h3⟩ := q3.store (val := .int .i64 (cntN (s :: st.ns) s : Int)) keyedStr Try.underlying36 hk
  exact ⟨w', h1, h3, ⟨f, (q.chg h3 (by simpa using h.n13)).mono (by omega), r⟩, ⟨f2, (q2.chg h3 (by simpa using h.n23)).mono (by omega), r2⟩, ⟨_, h2, r3.add s⟩, h.n12, h.n13, h.n23, h.g1, h.g2, h.g3, h.below.trans (h3.below h.below.size (by simpa using h.g3))⟩
end
theorem cntN_succ (N : List ByteArray) (s : ByteArray) : cntN (s :: N) s = cntN N s + 1 := by simp [cntN]
end Go.Proofs.Ytbbbdhpihcbmmaa
namespace Go.Proofs.Ytbbbdhpihcbmmaa
open Go.RowKit Own
open Go.Maps (Keyed)

/-- what is kept, and the event at hand in its box -/
structure EX (w0 : World) (m1 m2 m3 n : Nat) (st : CS) (eb : Nat) (x : EvIn) (dv rv : Value) (w : World) : Prop where
  ch : CH w0 m1 m2 m3 n st w
  box : w.heap[eb]? = some (.cells (evC x dv rv) 44 (0, 0))
section
variable {w0 w w' : World} {m1 m2 m3 n eb : Nat} {st : CS} {x : EvIn} {dv rv : Value}
theorem EX.go (h : EX w0 m1 m2 m3 n st eb x dv rv w) (hb : Below w.heap.size w w') : EX w0 m1 m2 m3 n st eb x dv rv w' :=
  ⟨h.ch.go hb, (hb.block _ (Array.getElem?_eq_some_iff.1 h.box).1).trans h.box⟩
theorem EX.facts (h : EX w0 m1 m2 m3 n st eb x dv rv w) : w.cell? ⟨eb, 0, none⟩ = some (.int .i64 x.kc) ∧ w.cell? ⟨eb, 1, none⟩ = some (.int .i64 x.ks) ∧ w.cell? ⟨eb, 2, none⟩ = some (.bool x.done) ∧ w.cell? ⟨eb, 3, none⟩ = some (.bool x.unk) ∧ w.cell? ⟨eb, 4, none⟩ = some (.int .i64 x.call.k) ∧ w.cell? ⟨eb, 5, none⟩ = some (.string x.call.s) ∧
    w.cell? ⟨eb, 6, none⟩ = some (.int .i64 x.call.a) ∧ w.cell? ⟨eb, 7, none⟩ = some dv ∧ w.cell? ⟨eb, 8, none⟩ = some (.int .i64 x.call.n) ∧ w.cell? ⟨eb, 9, none⟩ = some (.int .i64 x.rep.code) ∧ w.cell? ⟨eb, 10, none⟩ = some (.int .i64 x.rep.size) ∧ w.cell? ⟨eb, 11, none⟩ = some rv := by
  have hc : ∀ j u, (evC x dv rv)[j]? = some u → w.cell? ⟨eb, j, none⟩ = some u := fun j u hu => by rw [cell_of_row _ _ j _ _ _ h.box]; exact hu
  exact ⟨hc 0 _ rfl, hc 1 _ rfl, hc 2 _ rfl, hc 3 _ rfl, hc 4 _ rfl, hc 5 _ rfl, hc 6 _ rfl, hc 7 _ rfl, hc 8 _ rfl, hc 9 _ rfl, hc 10 _ rfl, hc 11 _ rfl⟩
theorem EX.keep (h : EX w0 m1 m2 m3 n st eb x dv rv w) {m : Nat} (hm : ∃ es c, w.heap[m]? = some (.map es c)) (hc : Chg [m] w w') : w'.heap[eb]? = some (.cells (evC x dv rv) 44 (0, 0)) := by
  refine (hc.block _ (Array.getElem?_eq_some_iff.1 h.box).1 ?_).trans h.box
  rw [List.mem_singleton]
  rintro rfl
  obtain ⟨es, c, hm⟩ := hm
  rw [h.box] at hm; cases hm
theorem MapIs.isMap {P : Program} {k : TypeId} {b m : Nat} {f : Value → Option Value} (h : MapIs P k b m f w) : ∃ es c, w.heap[b]? = some (.map es c) := by
  obtain ⟨es, c, hb, _⟩ := h
  exact ⟨es, c, hb⟩
theorem EX.put1 (h : EX w0 m1 m2 m3 n st eb x dv rv w) {a b : Int} (ha : (Lit.int .i64 a).wf = true) (hb : (Lit.int .i64 b).wf = true) : ∃ w', (Instr.mapUpdate 70 (.map (some m1)) (K2 a b) (.bool true)).run Try.prog w = .ok () w' ∧ EX w0 m1 m2 m3 (n + 1) { st with bs := (a, b) :: st.bs } eb x dv rv w' := by
  obtain ⟨w', h1, h2, h3⟩ := h.ch.put1 ha hb
  obtain ⟨f, q, _⟩ := h.ch.a1
  exact ⟨w', h1, h3, h.keep q.isMap h2⟩
theorem EX.put2 (h : EX w0 m1 m2 m3 n st eb x dv rv w) {a b : Int} (ha : (Lit.int .i64 a).wf = true) (hb : (Lit.int .i64 b).wf = true) : ∃ w', (Instr.mapUpdate 70 (.map (some m2)) (K2 a b) (.bool true)).run Try.prog w = .ok () w' ∧ EX w0 m1 m2 m3 (n + 1) { st with es := (a, b) :: st.es } eb x dv rv w' := by
  obtain ⟨w', h1, h2, h3⟩ := h.ch.put2 ha hb
  obtain ⟨f, q, _⟩ := h.ch.a2
  exact ⟨w', h1, h3, h.keep q.isMap h2⟩
theorem EX.put3 (h : EX w0 m1 m2 m3 n st eb x dv rv w) {s : ByteArray} (hs : s.size ≤ 140737488351232) (m : Nat) : ∃ w', (Instr.mapUpdate 36 (.map (some m3)) (.string s) (.int .i64 (cntN (s :: st.ns) s : Int))).run Try.prog w = .ok () w' ∧ EX w0 m1 m2 m3 (n + 1) { st with ns := s :: st.ns, most := m } eb x dv rv w' := by
  obtain ⟨w', h1, h2, h3⟩ := h.ch.put3 s hs m
  obtain ⟨f, q, _⟩ := h.ch.a3
  exact ⟨w', h1, h3, h.keep q.isMap h2⟩
end
theorem CH.start (w : World) : CH w w.heap.size (w.heap.size + 1) (w.heap.size + 2) 0 ⟨[], [], [], 0⟩ (((w.alloc (.map #[] 0)).alloc (.map #[] 0)).alloc (.map #[] 0)) := by
  obtain ⟨wa, ha⟩ : ∃ wa, wa = w.alloc (.map #[] 0) := ⟨_, rfl⟩
  obtain ⟨wb, hb⟩ : ∃ wb, wb = wa.alloc (.map #[] 0) := ⟨_, rfl⟩
  have sa : wa.heap.size = w.heap.size + 1 := by rw [ha]; simp
  have sb : wb.heap.size = w.heap.size + 2 := by rw [hb]; simp [sa]
  have q1 : MapIs Try.prog 42 w.heap.size 0 noKeys wa := by rw [ha]; exact MapIs.made w
  have q2 : MapIs Try.prog 42 wa.heap.size 0 noKeys wb := by rw [hb]; exact MapIs.made wa
  have q3 : MapIs Try.prog 9 wb.heap.size 0 noKeys (wb.alloc (.map #[] 0)) := MapIs.made wb
  have b1 : Below wa.heap.size wa wb := by rw [hb]; exact (Below.refl _ _).alloc (Nat.le_refl _) _
  have b2 : Below wb.heap.size wb (wb.alloc (.map #[] 0)) := (Below.refl _ _).alloc (Nat.le_refl _) _
  have b0 : Below w.heap.size w wa := by rw [ha]; exact (Below.refl _ _).alloc (Nat.le_refl _) _
  have b12 := b1.trans (b2.mono b1.size)
  rw [← ha, ← hb]
  rw [sa] at q2
  rw [sb] at q3
  exact ⟨⟨_, q1.same (b12.block _ (by omega)), KeySet.nil⟩, ⟨_, q2.same (b2.block _ (by omega)), KeySet.nil⟩, ⟨_, q3, CntMap.nil⟩, by omega, by omega, by omega, Nat.le_refl _, by omega, by omega, b0.trans (b12.mono b0.size)⟩
theorem cntN_le (N : List ByteArray) (s : ByteArray) : cntN N s ≤ N.length := List.length_filter_le ..
end Go.Proofs.Ytbbbdhpihcbmmaa
namespace Go.Proofs.Ytbbbdhpihcbmmaa
open Go.RowKit Own

theorem chkH_no {xs : List EvIn} (h64 : ¬ 64 < xs.length) (h : csRun xs ⟨[], [], [], 0⟩ = none) : chkH xs = 1 := by unfold chkH; rw [if_neg h64, h]
theorem chkH_yes {xs : List EvIn} {st : CS} (h64 : ¬ 64 < xs.length) (h : csRun xs ⟨[], [], [], 0⟩ = some st) : chkH xs = if 8 < st.most then 2 else 0 := by unfold chkH; rw [if_neg h64, h]

set_option maxHeartbeats 8000000 in
set_option maxRecDepth 100000 in
theorem chk_any (v : Value) (xs : List EvIn) (w : World) (hv : ReadsEvs w v xs) (hok : ∀ x ∈ xs, EvOk x) (hn : xs.length ≤ 140737488351232) :
    Calls Try.prog 25 #[v] w fun e w' => e = .returned (.int .i64 (chkH xs)) ∧ Below w.heap.size w w' := by
  obtain ⟨Av, cv, rfl⟩ := hv.slice
  by_cases h64 : 64 < xs.length
  · have k1 : (64 : Int) < (xs.length : Int) := by omega
    have HR : Hid (chkH xs = 3) := by show _ = _; unfold chkH; rw [if_pos h64]
    clear hv hok hn h64
    go_enter Try.func25, Try.ntmps25
    go_wp2_with fail
    go_ret
    exact ⟨by rw [HR.out]; rfl, Below.refl _ _⟩
  · have k1 : ¬ (64 : Int) < (xs.length : Int) := by omega
    have HV := Lib.hid hv
    have HO := Lib.hid hok
    have H64 := Lib.hid h64
    have HS := Lib.hid (CH.start w)
    have hmm := @run_makeMap Try.prog
    clear hv hok hn h64
    go_enter Try.func25, Try.ntmps25
    go_wp2_with fail
    go_loopw [6, 17] (fun mo i wr => ∃ (j : Nat) (st : CS) (nn : Nat), i = .int .i64 j ∧ mo = .int .i64 st.most ∧ j ≤ xs.length ∧ st.ns.length ≤ j ∧ CH w w.heap.size (w.heap.size + 1) (w.heap.size + 2) nn st wr ∧ csRun (xs.drop j) st = csRun xs ⟨[], [], [], 0⟩) (fun _ i _ => xs.length - (intOf i).toNat)
    case atStart => exact ⟨0, ⟨[], [], [], 0⟩, 0, rfl, rfl, Nat.zero_le _, Nat.le_refl _, HS.out, rfl⟩
    case round =>
      obtain ⟨j, ⟨bs, es, ns, most⟩, nn, rfl, rfl, hjk, hns, hch, hrun⟩ := hrel
      obtain ⟨wL, rfl⟩ : ∃ wo : World, wo = wr := ⟨_, rfl⟩
      simp only [] at hns
      clear HS
      by_cases hj : j < xs.length
      · have k2 : (j : Int) < (xs.length : Int) := by omega
        have k0 : (0 : Int) ≤ (j : Int) := by omega
        obtain ⟨bb, off, cc, hvv, hact⟩ := ReadsEvs.at_ (HV.out.below hch.below) hj
        cases hvv
        have hxo := HO.out _ (List.getElem_mem hj)
        rw [List.drop_eq_getElem_cons hj] at hrun
        generalize xs[j]'hj = x at *
        obtain ⟨dA, dc, rA, rc, ⟨e0, e1, e2, e3, e4, e5, e6, e7, e8, e9, e10, e11⟩, hrd, hrr⟩ := hact.cells
        have HAl : Hid (∀ (W : World) o, Below W.heap.size W (W.alloc o)) := fun W o => (Below.refl _ _).alloc (Nat.le_refl _) o
        have HNo : Hid (csOk ⟨bs, es, ns, most⟩ x = false → chkH xs = 1) := fun h => chkH_no H64.out (by rw [← hrun, csRun, if_neg (by rw [h]; decide)])
        have HYes : Hid (csOk ⟨bs, es, ns, most⟩ x = true → csRun (xs.drop (j + 1)) (csStep ⟨bs, es, ns, most⟩ x) = csRun xs ⟨[], [], [], 0⟩) := fun h => by rw [← hrun, csRun, if_pos h]
        have HX1 : Hid (EX w w.heap.size (w.heap.size + 1) (w.heap.size + 2) nn ⟨bs, es, ns, most⟩ wL.heap.size x (.slice dA x.call.d.length dc) (.slice rA x.rep.d.length rc) (wL.alloc (.cells (evC x (.slice dA x.call.d.length dc) (.slice rA x.rep.d.length rc)) 44))) := ⟨hch.go (HAl.out wL _), heap_alloc_new wL _⟩
        have HChk : Hid (∀ W, Below wL.heap.size wL W → Calls Try.prog 15 #[callV x.call (.slice dA x.call.d.length dc)] W fun e w' => e = .returned (.int .i64 (mayN x.call)) ∧ Below W.heap.size W w') := fun W hW => pcheck_any x.call _ W (hrd.below hW) hxo.call.s
        have HSil : Hid (∀ W, Calls Try.prog 31 #[repV x.rep (.slice rA x.rep.d.length rc)] W fun e w' => e = .returned (.bool (silentB x.rep)) ∧ Below W.heap.size W w') := fun W => silent_any x.rep _ W ⟨rA, rc, rfl⟩
        have HZe : Hid (∀ W, Calls Try.prog 32 #[callV x.call (.slice dA x.call.d.length dc)] W fun e w' => e = .returned (.bool (zeroB x.call)) ∧ Below W.heap.size W w') := fun W => zero_any x.call _ W ⟨dA, dc, rfl⟩
        have HOk : Hid ((Lit.int .i64 x.kc).wf = true ∧ (Lit.int .i64 x.ks).wf = true ∧ x.call.s.size ≤ 140737488351232) := ⟨hxo.kc, hxo.ks, hxo.call.s⟩
        have l1 := HX1.out.ch.look1 HOk.out.1 HOk.out.2.1
        have l2 := HX1.out.ch.look2 HOk.out.1 HOk.out.2.1
        obtain ⟨xc, xk, done, unk, ⟨k, xs', a, d, n⟩, ⟨code, size, rd⟩⟩ := x
        unfold K2 at l1 l2
        dsimp only at e0 e1 e2 e3 e4 e5 e6 e7 e8 e9 e10 e11 HOk
        dsimp only [evC] at HX1 l1 l2
        dsimp only [callV] at HChk HZe
        dsimp only [repV] at HSil
        clear hch hrun hact hxo hrd hrr
        cases done with
        | false =>
          cases hB1 : decide ((xc, xk) ∈ bs) with
          | true =>
            rw [hB1] at l1
            have HR := Lib.hid (HNo.out (by simp [csOk, *]))
            go_wp2_with fail
            go_ret
            exact ⟨by rw [HR.out]; rfl, HX1.out.ch.below⟩
          | false =>
            rw [hB1] at l1
            cases unk with
            | true =>
              have HR := Lib.hid (HNo.out (by simp [csOk, *]))
              go_wp2_with fail
              go_ret
              exact ⟨by rw [HR.out]; rfl, HX1.out.ch.below⟩
            | false =>
              by_cases hm : MayC ⟨k, xs', a, d, n⟩
              · rw [mayN_yes hm] at HChk
                cases hS : silentB ⟨code, size, rd⟩ with
                | false =>
                  rw [hS] at HSil
                  have HR := Lib.hid (HNo.out (by simp [csOk, *]))
                  go_wp2_with (first | (go_at_call 15; refine (HChk.out _ (HAl.out wL _)).mono ?_; rintro e w2 ⟨rfl, hb2⟩; have hx := HX1.out.go hb2; have HX2 := Lib.hid hx; obtain ⟨f0, f1, f2, f3, f4, f5, f6, f7, f8, f9, f10, f11⟩ := hx.facts; clear hx hb2) | (go_at_call 31; refine (HSil.out _).mono ?_; clear f0 f1 f2 f3 f4 f5 f6 f7 f8 f9 f10 f11; rintro e w3 ⟨rfl, hb3⟩; have hx := HX2.out.go hb3; have HX3 := Lib.hid hx; obtain ⟨f0, f1, f2, f3, f4, f5, f6, f7, f8, f9, f10, f11⟩ := hx.facts; clear hx hb3))
                  go_ret
                  exact ⟨by rw [HR.out]; rfl, HX3.out.ch.below⟩
                | true =>
                  rw [hS] at HSil
                  have hw : IntKind.i64.wrap ((cntN ns xs' : Int) + 1) = (cntN (xs' :: ns) xs' : Int) := by rw [cntN_succ, IntKind.wrap_i64]; have := cntN_le ns xs'; omega
                  by_cases hmx : (most : Int) < (cntN (xs' :: ns) xs' : Int)
                  · have HMx : Hid ((cntN (xs' :: ns) xs' : Int) = ((max most (cntN (xs' :: ns) xs') : Nat) : Int)) := by show _ = _; omega
                    have hmx' : most < cntN (xs' :: ns) xs' := by omega
                    have HR := Lib.hid (HYes.out (by simp [csOk, hB1, hm, hS]))
                    go_wp2_with (first | (go_at_call 15; refine (HChk.out _ (HAl.out wL _)).mono ?_; rintro e w2 ⟨rfl, hb2⟩; have hx := HX1.out.go hb2; have HX2 := Lib.hid hx; obtain ⟨f0, f1, f2, f3, f4, f5, f6, f7, f8, f9, f10, f11⟩ := hx.facts; clear hx hb2) | (go_at_call 31; refine (HSil.out _).mono ?_; clear f0 f1 f2 f3 f4 f5 f6 f7 f8 f9 f10 f11; rintro e w3 ⟨rfl, hb3⟩; have hx := HX2.out.go hb3; have HX3 := Lib.hid hx; obtain ⟨f0, f1, f2, f3, f4, f5, f6, f7, f8, f9, f10, f11⟩ := hx.facts; have l3 := hx.ch.look3 xs' HOk.out.2.2; obtain ⟨w8, u3, hx8⟩ := hx.put3 HOk.out.2.2 (max most (cntN (xs' :: ns) xs')); have l4 := hx8.ch.look3 xs' HOk.out.2.2; obtain ⟨g0, g1, g2, g3, g4, g5, g6, g7, g8, g9, g10, g11⟩ := hx8.facts; obtain ⟨w9, u4, hx9⟩ := hx8.put1 HOk.out.1 HOk.out.2.1; have HX9 := Lib.hid hx9; unfold K2 at u4; (try dsimp only at l3); (try dsimp only at l4); (try dsimp only at u3); (try dsimp only at u4); clear hx8 hx9; clear hx hb3))
                    go_roundw
                    case rel => exact ⟨j + 1, _, nn + 1 + 1, by go_num, congrArg (Value.int .i64) HMx.out, by omega, by simp; omega, HX9.out.ch, HR.out⟩
                    case measure => simp [intOf]; omega
                  · have HMx : Hid ((most : Int) = ((max most (cntN (xs' :: ns) xs') : Nat) : Int)) := by show _ = _; omega
                    have hmx' : ¬ most < cntN (xs' :: ns) xs' := by omega
                    have HR := Lib.hid (HYes.out (by simp [csOk, hB1, hm, hS]))
                    go_wp2_with (first | (go_at_call 15; refine (HChk.out _ (HAl.out wL _)).mono ?_; rintro e w2 ⟨rfl, hb2⟩; have hx := HX1.out.go hb2; have HX2 := Lib.hid hx; obtain ⟨f0, f1, f2, f3, f4, f5, f6, f7, f8, f9, f10, f11⟩ := hx.facts; clear hx hb2) | (go_at_call 31; refine (HSil.out _).mono ?_; clear f0 f1 f2 f3 f4 f5 f6 f7 f8 f9 f10 f11; rintro e w3 ⟨rfl, hb3⟩; have hx := HX2.out.go hb3; have HX3 := Lib.hid hx; obtain ⟨f0, f1, f2, f3, f4, f5, f6, f7, f8, f9, f10, f11⟩ := hx.facts; have l3 := hx.ch.look3 xs' HOk.out.2.2; obtain ⟨w8, u3, hx8⟩ := hx.put3 HOk.out.2.2 (max most (cntN (xs' :: ns) xs')); have l4 := hx8.ch.look3 xs' HOk.out.2.2; obtain ⟨g0, g1, g2, g3, g4, g5, g6, g7, g8, g9, g10, g11⟩ := hx8.facts; obtain ⟨w9, u4, hx9⟩ := hx8.put1 HOk.out.1 HOk.out.2.1; have HX9 := Lib.hid hx9; unfold K2 at u4; (try dsimp only at l3); (try dsimp only at l4); (try dsimp only at u3); (try dsimp only at u4); clear hx8 hx9; clear hx hb3))
                    go_roundw
                    case rel => exact ⟨j + 1, _, nn + 1 + 1, by go_num, congrArg (Value.int .i64) HMx.out, by omega, by simp; omega, HX9.out.ch, HR.out⟩
                    case measure => simp [intOf]; omega
              · rw [mayN_no hm] at HChk
                have HR := Lib.hid (HNo.out (by simp [csOk, *]))
                go_wp2_with (first | (go_at_call 15; refine (HChk.out _ (HAl.out wL _)).mono ?_; rintro e w2 ⟨rfl, hb2⟩; have hx := HX1.out.go hb2; have HX2 := Lib.hid hx; obtain ⟨f0, f1, f2, f3, f4, f5, f6, f7, f8, f9, f10, f11⟩ := hx.facts; clear hx hb2))
                go_ret
                exact ⟨by rw [HR.out]; rfl, HX2.out.ch.below⟩
        | true =>
          cases hB1 : decide ((xc, xk) ∈ bs) with
          | false =>
            rw [hB1] at l1
            have HR := Lib.hid (HNo.out (by simp [csOk, *]))
            go_wp2_with fail
            go_ret
            exact ⟨by rw [HR.out]; rfl, HX1.out.ch.below⟩
          | true =>
            rw [hB1] at l1
            cases hB2 : decide ((xc, xk) ∈ es) with
            | true =>
              rw [hB2] at l2
              have HR := Lib.hid (HNo.out (by simp [csOk, *]))
              go_wp2_with fail
              go_ret
              exact ⟨by rw [HR.out]; rfl, HX1.out.ch.below⟩
            | false =>
              rw [hB2] at l2
              cases hZ : zeroB ⟨k, xs', a, d, n⟩ with
              | false =>
                rw [hZ] at HZe
                have HR := Lib.hid (HNo.out (by simp [csOk, *]))
                go_wp2_with (first | (go_at_call 32; refine (HZe.out _).mono ?_; rintro e w2 ⟨rfl, hb2⟩; have hx := HX1.out.go hb2; have HX2 := Lib.hid hx; obtain ⟨f0, f1, f2, f3, f4, f5, f6, f7, f8, f9, f10, f11⟩ := hx.facts; clear hx hb2))
                go_ret
                exact ⟨by rw [HR.out]; rfl, HX2.out.ch.below⟩
              | true =>
                rw [hZ] at HZe
                cases unk with
                | false =>
                  have HR := Lib.hid (HYes.out (by simp [csOk, hB1, hB2, hZ]))
                  go_wp2_with (first | (go_at_call 32; refine (HZe.out _).mono ?_; rintro e w2 ⟨rfl, hb2⟩; have hx := HX1.out.go hb2; have HX2 := Lib.hid hx; obtain ⟨f0, f1, f2, f3, f4, f5, f6, f7, f8, f9, f10, f11⟩ := hx.facts; obtain ⟨w8, u3, hx8⟩ := hx.put2 HOk.out.1 HOk.out.2.1; obtain ⟨g0, g1, g2, g3, g4, g5, g6, g7, g8, g9, g10, g11⟩ := hx8.facts; obtain ⟨w9, u4, hx9⟩ := hx8.put1 HOk.out.1 HOk.out.2.1; have HX9 := Lib.hid hx9; unfold K2 at u3 u4; clear hx8 hx9; clear hx hb2))
                  go_roundw
                  case rel => exact ⟨j + 1, _, nn + 1 + 1, by go_num, rfl, by omega, Nat.le_succ_of_le hns, HX9.out.ch, HR.out⟩
                  case measure => simp [intOf]; omega
                | true =>
                  cases hS : silentB ⟨code, size, rd⟩ with
                  | false =>
                    rw [hS] at HSil
                    have HR := Lib.hid (HNo.out (by simp [csOk, *]))
                    go_wp2_with (first | (go_at_call 32; refine (HZe.out _).mono ?_; rintro e w2 ⟨rfl, hb2⟩; have hx := HX1.out.go hb2; have HX2 := Lib.hid hx; obtain ⟨f0, f1, f2, f3, f4, f5, f6, f7, f8, f9, f10, f11⟩ := hx.facts; clear hx hb2) | (go_at_call 31; refine (HSil.out _).mono ?_; clear f0 f1 f2 f3 f4 f5 f6 f7 f8 f9 f10 f11; rintro e w3 ⟨rfl, hb3⟩; have hx := HX2.out.go hb3; have HX3 := Lib.hid hx; obtain ⟨f0, f1, f2, f3, f4, f5, f6, f7, f8, f9, f10, f11⟩ := hx.facts; clear hx hb3))
                    go_ret
                    exact ⟨by rw [HR.out]; rfl, HX3.out.ch.below⟩
                  | true =>
                    rw [hS] at HSil
                    have HR := Lib.hid (HYes.out (by simp [csOk, hB1, hB2, hZ, hS]))
                    go_wp2_with (first | (go_at_call 32; refine (HZe.out _).mono ?_; rintro e w2 ⟨rfl, hb2⟩; have hx := HX1.out.go hb2; have HX2 := Lib.hid hx; obtain ⟨f0, f1, f2, f3, f4, f5, f6, f7, f8, f9, f10, f11⟩ := hx.facts; clear hx hb2) | (go_at_call 31; refine (HSil.out _).mono ?_; clear f0 f1 f2 f3 f4 f5 f6 f7 f8 f9 f10 f11; rintro e w3 ⟨rfl, hb3⟩; have hx := HX2.out.go hb3; have HX3 := Lib.hid hx; obtain ⟨f0, f1, f2, f3, f4, f5, f6, f7, f8, f9, f10, f11⟩ := hx.facts; obtain ⟨w8, u3, hx8⟩ := hx.put2 HOk.out.1 HOk.out.2.1; obtain ⟨g0, g1, g2, g3, g4, g5, g6, g7, g8, g9, g10, g11⟩ := hx8.facts; obtain ⟨w9, u4, hx9⟩ := hx8.put1 HOk.out.1 HOk.out.2.1; have HX9 := Lib.hid hx9; unfold K2 at u3 u4; clear hx8 hx9; clear hx hb3))
                    go_roundw
                    case rel => exact ⟨j + 1, _, nn + 1 + 1, by go_num, rfl, by omega, Nat.le_succ_of_le hns, HX9.out.ch, HR.out⟩
                    case measure => simp [intOf]; omega
      · obtain rfl : j = xs.length := by omega
        have hr : csRun xs ⟨[], [], [], 0⟩ = some ⟨bs, es, ns, most⟩ := by rw [← hrun, List.drop_length]; rfl
        have HR := Lib.hid (chkH_yes H64.out hr)
        have HB := Lib.hid hch.below
        clear hch hrun hr hj
        by_cases hm : (8 : Int) < (most : Int)
        · have HM : Hid (8 < most) := by show _ < _; omega
          go_wp2_with fail
          go_ret
          exact ⟨by rw [HR.out, if_pos HM.out]; rfl, HB.out⟩
        · have HM : Hid (¬ 8 < most) := by show ¬ _; omega
          go_wp2_with fail
          go_ret
          exact ⟨by rw [HR.out, if_neg HM.out]; rfl, HB.out⟩
end Go.Proofs.Ytbbbdhpihcbmmaa
