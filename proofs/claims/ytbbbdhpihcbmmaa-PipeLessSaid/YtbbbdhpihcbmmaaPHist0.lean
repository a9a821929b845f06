/- What CheckHistory keeps: who began, who ended, how often a name. -/
import Derived.Test.YtbbbdhpihcbmmaaPEv
import Derived.Test.YtbbbdhpihcbmmaaMap2
import Derived.StringKeys
import Derived.DeepKeys4
namespace Go.Proofs.Ytbbbdhpihcbmmaa
open Go.RowKit Own
open Go.Maps (Keyed)

theorem laidOut : laidOutB Try.prog = true := by kernel_rfl
theorem rowKey : (42 : TypeId) < Try.prog.types.size := of_decide_eq_true (by kernel_rfl)
theorem wideKey : (match Try.prog.underlying 42 with | some (.array _ _) | some (.struct _) => true | _ => false) = true := by kernel_rfl
theorem keyedKey : Keyed Try.prog 42 := Keyed.of_law (deep_law_laid laidOut (m := 2) (by omega) rowKey (by kernel_rfl) wideKey)
theorem keyedStr : Keyed Try.prog 9 := Keyed.of_law (Go.WideMaps.string_law Try.underlying9)
def K2 (a b : Int) : Value := .agg #[.int .i64 a, .int .i64 b]
theorem K2_inj {a b c d : Int} : K2 a b = K2 c d ↔ a = c ∧ b = d := by simp [K2]
theorem keyKey {a b : Int} (ha : (Lit.int .i64 a).wf = true) (hb : (Lit.int .i64 b).wf = true) : ∃ kl, keyOf Try.prog 42 (K2 a b) = some kl := by
  have h1 : Try.prog.keyType 42 = true := by kernel_rfl
  have h2 : Try.prog.cellsOf 42 = 2 := by kernel_rfl
  have h3 : Try.prog.cellsOf 3 = 1 := by kernel_rfl
  obtain ⟨n, hn⟩ : ∃ n, Try.prog.types.size = n + 1 := ⟨Try.prog.types.size - 1, (Nat.succ_pred_eq_of_pos (Nat.lt_of_le_of_lt (Nat.zero_le _) rowKey)).symm⟩
  simp only [keyOf, Try.underlying42, h1, Value.formed, h2, K2, Value.cells, hn]
  have e : Try.prog.keyLits (n + 1 + 1) 42 [.int .i64 a, .int .i64 b] = some [.int .i64 a, .int .i64 b] := by
    simp [Program.keyLits, Try.underlying42, Try.underlying3, h2, h3, ha, hb]
  simp [e]
theorem keyStr (s : ByteArray) (hs : s.size ≤ 140737488351232) : ∃ kl, keyOf Try.prog 9 (.string s) = some kl := by
  have hsz : s.size ≤ maxLen := by simp [maxLen]; omega
  simp [keyOf, mapKey, Try.underlying9, hsz]

/-- a map that tells who is among some -/
def KeySet (f : Value → Option Value) (B : List (Int × Int)) : Prop := ∀ a b, f (K2 a b) = if (a, b) ∈ B then some (.bool true) else none
theorem KeySet.nil : KeySet noKeys [] := fun _ _ => rfl
theorem KeySet.add {f : Value → Option Value} {B : List (Int × Int)} (h : KeySet f B) (a b : Int) : KeySet (putKey f (K2 a b) (.bool true)) ((a, b) :: B) := fun c d => by
  by_cases hc : c = a ∧ d = b
  · obtain ⟨rfl, rfl⟩ := hc
    rw [putKey_same, if_pos (by simp)]
  · rw [putKey_other _ _ (fun e => hc (K2_inj.1 e)), h]
    have : (c, d) ∈ (a, b) :: B ↔ (c, d) ∈ B := by
      rw [List.mem_cons, Prod.mk.injEq]
      exact ⟨fun h => h.resolve_left hc, .inr⟩
    by_cases hm : (c, d) ∈ B
    · rw [if_pos hm, if_pos (this.2 hm)]
    · rw [if_neg hm, if_neg (fun h => hm (this.1 h))]
/-- a map that counts names -/
def CntMap (f : Value → Option Value) (N : List ByteArray) : Prop := ∀ s, (f (.string s)).getD (.int .i64 0) = .int .i64 ((N.filter (fun t => decide (t = s))).length : Int)
theorem CntMap.nil : CntMap noKeys [] := fun _ => rfl
theorem CntMap.add {f : Value → Option Value} {N : List ByteArray} (h : CntMap f N) (s : ByteArray) : CntMap (putKey f (.string s) (.int .i64 (((s :: N).filter (fun t => decide (t = s))).length : Int))) (s :: N) := fun t => by
  by_cases hc : t = s
  · subst hc
    rw [putKey_same]; rfl
  · rw [putKey_other _ _ (fun e => hc (Value.string.inj e)), h, List.filter_cons_of_neg (by simp; exact fun e => hc e.symm)]

/-- the state -/
structure CS where
  bs : List (Int × Int)
  es : List (Int × Int)
  ns : List ByteArray
  most : Nat
def cntN (N : List ByteArray) (s : ByteArray) : Nat := (N.filter (fun t => decide (t = s))).length
def csOk (st : CS) (x : EvIn) : Bool := if x.done then decide ((x.kc, x.ks) ∈ st.bs) && (!(decide ((x.kc, x.ks) ∈ st.es)) && (zeroB x.call && (!x.unk || silentB x.rep))) else !(decide ((x.kc, x.ks) ∈ st.bs)) && (!x.unk && (decide (MayC x.call) && silentB x.rep))
def csStep (st : CS) (x : EvIn) : CS := if x.done then { st with es := (x.kc, x.ks) :: st.es, bs := (x.kc, x.ks) :: st.bs } else { st with ns := x.call.s :: st.ns, most := max st.most (cntN (x.call.s :: st.ns) x.call.s), bs := (x.kc, x.ks) :: st.bs }
def csRun : List EvIn → CS → Option CS
  | [], st => some st
  | x :: xs, st => if csOk st x = true then csRun xs (csStep st x) else none
def chkH (xs : List EvIn) : Int := if 64 < xs.length then 3 else match csRun xs ⟨[], [], [], 0⟩ with | none => 1 | some st => if 8 < st.most then 2 else 0

structure CH (w0 : World) (m1 m2 m3 n : Nat) (st : CS) (w : World) : Prop where
  a1 : ∃ f, MapIs Try.prog 42 m1 n f w ∧ KeySet f st.bs
  a2 : ∃ f, MapIs Try.prog 42 m2 n f w ∧ KeySet f st.es
  a3 : ∃ f, MapIs Try.prog 9 m3 n f w ∧ CntMap f st.ns
  n12 : m1 ≠ m2
  n13 : m1 ≠ m3
  n23 : m2 ≠ m3
  g1 : w0.heap.size ≤ m1
  g2 : w0.heap.size ≤ m2
  g3 : w0.heap.size ≤ m3
  below : Below w0.heap.size w0 w
section
variable {w0 w w' : World} {m1 m2 m3 n : Nat} {st : CS}
theorem CH.go (h : CH w0 m1 m2 m3 n st w) (hb : Below w.heap.size w w') : CH w0 m1 m2 m3 n st w' := by
  obtain ⟨f1, q1, r1⟩ := h.a1
  obtain ⟨f2, q2, r2⟩ := h.a2
  obtain ⟨f3, q3, r3⟩ := h.a3
  exact ⟨⟨f1, q1.same (hb.block _ q1.lt), r1⟩, ⟨f2, q2.same (hb.block _ q2.lt), r2⟩, ⟨f3, q3.same (hb.block _ q3.lt), r3⟩, h.n12, h.n13, h.n23, h.g1, h.g2, h.g3, h.below.trans (hb.mono h.below.size)⟩
theorem zeroBool (w : World) : (zeroValue 4).run Try.prog w = .ok (.bool false) w := by kernel_rfl
theorem zeroInt (w : World) : (zeroValue 3).run Try.prog w = .ok (.int .i64 0) w := by kernel_rfl
theorem CH.look1 (h : CH w0 m1 m2 m3 n st w) {a b : Int} (ha : (Lit.int .i64 a).wf = true) (hb : (Lit.int .i64 b).wf = true) : (Instr.lookup 70 (.map (some m1)) (K2 a b) false).run Try.prog w = .ok (.bool (decide ((a, b) ∈ st.bs))) w := by
  obtain ⟨f, q, r⟩ := h.a1
  obtain ⟨kl, hk⟩ := keyKey ha hb
  have := q.look keyedKey Try.underlying70 (zeroBool w) hk
  rw [this, r]
  by_cases hm : (a, b) ∈ st.bs
  · rw [if_pos hm]; simp [hm]
  · rw [if_neg hm]; simp [hm]
theorem CH.look2 (h : CH w0 m1 m2 m3 n st w) {a b : Int} (ha : (Lit.int .i64 a).wf = true) (hb : (Lit.int .i64 b).wf = true) : (Instr.lookup 70 (.map (some m2)) (K2 a b) false).run Try.prog w = .ok (.bool (decide ((a, b) ∈ st.es))) w := by
  obtain ⟨f, q, r⟩ := h.a2
  obtain ⟨kl, hk⟩ := keyKey ha hb
  have := q.look keyedKey Try.underlying70 (zeroBool w) hk
  rw [this, r]
  by_cases hm : (a, b) ∈ st.es
  · rw [if_pos hm]; simp [hm]
  · rw [if_neg hm]; simp [hm]
theorem CH.look3 (h : CH w0 m1 m2 m3 n st w) (s : ByteArray) (hs : s.size ≤ 140737488351232) : (Instr.lookup 36 (.map (some m3)) (.string s) false).run Try.prog w = .ok (.int .i64 (cntN st.ns s : Int)) w := by
  obtain ⟨f, q, r⟩ := h.a3
  obtain ⟨kl, hk⟩ := keyStr s hs
  have := q.look keyedStr Try.underlying36 (zeroInt w) hk
  rw [this, r]
  rfl
theorem CH.put1 (h : CH w0 m1 m2 m3 n st w) {a b : Int} (ha : (Lit.int .i64 a).wf = true) (hb : (Lit.int .i64 b).wf = true) : ∃ w', (Instr.mapUpdate 70 (.map (some m1)) (K2 a b) (.bool true)).run Try.prog w = .ok () w' ∧ Chg [m1] w w' ∧ CH w0 m1 m2 m3 (n + 1) { st with bs := (a, b) :: st.bs } w' := by
  obtain ⟨f, q, r⟩ := h.a1
  obtain ⟨f2, q2, r2⟩ := h.a2
  obtain ⟨f3, q3, r3⟩ := h.a3
  obtain ⟨kl, hk⟩ := keyKey ha hb
  obtain ⟨w', h1, h2, h3⟩ := q.store (val := .bool true) keyedKey Try.underlying70 hk
  exact ⟨w', h1, h3, ⟨_, h2, r.add a b⟩, ⟨f2, (q2.chg h3 (by simpa using h.n12.symm)).mono (by omega), r2⟩, ⟨f3, (q3.chg h3 (by simpa using h.n13.symm)).mono (by omega), r3⟩, h.n12, h.n13, h.n23, h.g1, h.g2, h.g3, h.below.trans (h3.below h.below.size (by simpa using h.g1))⟩
theorem CH.put2 (h : CH w0 m1 m2 m3 n st w) {a b : Int} (ha : (Lit.int .i64 a).wf = true) (hb : (Lit.int .i64 b).wf = true) : ∃ w', (Instr.mapUpdate 70 (.map (some m2)) (K2 a b) (.bool true)).run Try.prog w = .ok () w' ∧ Chg [m2] w w' ∧ CH w0 m1 m2 m3 (n + 1) { st with es := (a, b) :: st.es } w' := by
  obtain ⟨f, q, r⟩ := h.a1
  obtain ⟨f2, q2, r2⟩ := h.a2
  obtain ⟨f3, q3, r3⟩ := h.a3
  obtain ⟨kl, hk⟩ := keyKey ha hb
  obtain ⟨w', h1, h2, h3⟩ := q2.store (val := .bool true) keyedKey Try.underlying70 hk
  exact ⟨w', h1, h3, ⟨f, (q.chg h3 (by simpa using h.n12)).mono (by omega), r⟩, ⟨_, h2, r2.add a b⟩, ⟨f3, (q3.chg h3 (by simpa using h.n23.symm)).mono (by omega), r3⟩, h.n12, h.n13, h.n23, h.g1, h.g2, h.g3, h.below.trans (h3.below h.below.size (by simpa using h.g2))⟩
theorem CH.put3 (h : CH w0 m1 m2 m3 n st w) (s : ByteArray) (hs : s.size ≤ 140737488351232) (m : Nat) : ∃ w', (Instr.mapUpdate 36 (.map (some m3)) (.string s) (.int .i64 (cntN (s :: st.ns) s : Int))).run Try.prog w = .ok () w' ∧ Chg [m3] w w' ∧ CH w0 m1 m2 m3 (n + 1) { st with ns := s :: st.ns, most := m } w' := by
  obtain ⟨f, q, r⟩ := h.a1
  obtain ⟨f2, q2, r2⟩ := h.a2
  obtain ⟨f3, q3, r3⟩ := h.a3
  obtain ⟨kl, hk⟩ := keyStr s hs
  obtain ⟨w', h1, h2, h3⟩ := q3.store (val := .int .i64 (cntN (s :: st.ns) s : Int)) keyedStr Try.underlying36 hk
  exact ⟨w', h1, h3, ⟨f, (q.chg h3 (by simpa using h.n13)).mono (by omega), r⟩, ⟨f2, (q2.chg h3 (by simpa using h.n23)).mono (by omega), r2⟩, ⟨_, h2, r3.add s⟩, h.n12, h.n13, h.n23, h.g1, h.g2, h.g3, h.below.trans (h3.below h.below.size (by simpa using h.g3))⟩
end
theorem cntN_succ (N : List ByteArray) (s : ByteArray) : cntN (s :: N) s = cntN N s + 1 := by simp [cntN]
end Go.Proofs.Ytbbbdhpihcbmmaa
