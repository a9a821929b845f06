/- Calls one behind the other: when such a history is right. No program in sight (but for its name). The reference's goes, at calls one behind the other: the row of what is done. No program in sight (but for its name). Calls one behind the other: with one reply turned they are not right. No program in sight (but for its name). PipeOrders: what its loop keeps, plain. No program in sight (but for its name). PipeOrders: what its loop keeps in memory. PipeOrders: a reply's code is turned. -/
import Derived.Test.YtbbbdhpihcbmmaaPLess0
import Derived.Test.YtbbbdhpihcbmmaaGBase
import Derived.Test.YtbbbdhpihcbmmaaPLess1
import Derived.Test.YtbbbdhpihcbmmaaGLess
import Derived.Test.YtbbbdhpihcbmmaaPBox
namespace Go.Proofs.Ytbbbdhpihcbmmaa
open Go.RowKit Own

structure OE where
  c : CallIn
  kc : Int
  ks : Int
  r : RepIn
def bgE (x : OE) : EvIn := ⟨x.kc, x.ks, false, false, x.c, ⟨0, 0, []⟩⟩
def enE (x : OE) : EvIn := ⟨x.kc, x.ks, true, false, ⟨0, ⟨#[]⟩, 0, [], 0⟩, x.r⟩
def evsOf : List OE → List EvIn
  | [] => []
  | x :: l => bgE x :: enE x :: evsOf l
theorem evsOf_len : ∀ l : List OE, (evsOf l).length = 2 * l.length
  | [] => rfl
  | x :: l => by simp only [evsOf, List.length_cons, evsOf_len l]; omega
theorem evsOf_append : ∀ a b : List OE, evsOf (a ++ b) = evsOf a ++ evsOf b
  | [], _ => rfl
  | x :: a, b => by simp only [List.cons_append, evsOf, evsOf_append a b]
theorem evsOf_bg : ∀ (l : List OE) (k : Nat) (hk : k < l.length), (evsOf l)[2 * k]? = some (bgE (l[k]'hk))
  | x :: l, 0, _ => rfl
  | x :: l, k + 1, hk => by
    rw [show 2 * (k + 1) = 2 * k + 1 + 1 by omega]
    simp only [evsOf, List.getElem?_cons_succ, List.getElem_cons_succ]
    exact evsOf_bg l k (by simpa using hk)
theorem evsOf_en : ∀ (l : List OE) (k : Nat) (hk : k < l.length), (evsOf l)[2 * k + 1]? = some (enE (l[k]'hk))
  | x :: l, 0, _ => rfl
  | x :: l, k + 1, hk => by
    rw [show 2 * (k + 1) + 1 = (2 * k + 1) + 1 + 1 by omega]
    simp only [evsOf, List.getElem?_cons_succ, List.getElem_cons_succ]
    exact evsOf_en l k (by simpa using hk)
def KeysApart (l : List OE) : Prop := l.Pairwise (fun x y => (x.kc, x.ks) ≠ (y.kc, y.ks))
theorem find_end {l : List OE} (ha : KeysApart l) {k : Nat} (hk : k < l.length) : (evsOf l).findIdx (endB (l[k]'hk).kc (l[k]'hk).ks) = 2 * k + 1 := by
  have hlen := evsOf_len l
  have hlt : 2 * k + 1 < (evsOf l).length := by omega
  rw [List.findIdx_eq hlt]
  constructor
  · have h := evsOf_en l k hk
    rw [List.getElem?_eq_getElem hlt, Option.some.injEq] at h
    rw [h]
    simp [endB, enE]
  · intro j hj
    have hjl : j < (evsOf l).length := by omega
    rcases Nat.mod_two_eq_zero_or_one j with h0 | h0
    · obtain ⟨q, rfl⟩ : ∃ q, j = 2 * q := ⟨j / 2, by omega⟩
      have h := evsOf_bg l q (by omega)
      rw [List.getElem?_eq_getElem hjl, Option.some.injEq] at h
      rw [h]
      simp [endB, bgE]
    · obtain ⟨q, rfl⟩ : ∃ q, j = 2 * q + 1 := ⟨j / 2, by omega⟩
      have h := evsOf_en l q (by omega)
      rw [List.getElem?_eq_getElem hjl, Option.some.injEq] at h
      rw [h]
      have hp := List.pairwise_iff_getElem.1 ha q k (by omega) hk (by omega)
      simp only [endB, enE, Bool.true_and]
      cases hb : ((l[q]'(by omega)).kc == (l[k]'hk).kc && (l[q]'(by omega)).ks == (l[k]'hk).ks) with
      | false => simp
      | true =>
        simp only [Bool.and_eq_true, beq_iff_eq] at hb
        exact absurd (by rw [hb.1, hb.2]) hp
def spK (x : OE) (k : Nat) : SpIn := ⟨x.c, 2 * k, 2 * k + 1, true, x.r⟩
theorem span_seq {l : List OE} (ha : KeysApart l) {k : Nat} (hk : k < l.length) : spanOf (evsOf l) (bgE (l[k]'hk)) (2 * k) = spK (l[k]'hk) k := by
  have hlen := evsOf_len l
  have hlt : 2 * k + 1 < (evsOf l).length := by omega
  have h := evsOf_en l k hk
  rw [List.getElem?_eq_getElem hlt, Option.some.injEq] at h
  rw [spanOf_at (2 * k) hlt (find_end ha hk) (by rw [h]; rfl), h]
  rfl
/-- the calls of a name, with what they were told -/
def spS (l : List OE) (s : ByteArray) : Nat → List SpIn
  | 0 => []
  | m + 1 => spS l s m ++ match l[m]? with | some x => if s = x.c.s then [spK x m] else [] | none => []
theorem upTo_seq {l : List OE} (ha : KeysApart l) (s : ByteArray) : ∀ m, m ≤ l.length → upTo (evsOf l) s (2 * m) = spS l s m
  | 0, _ => rfl
  | m + 1, hm => by
    have hk : m < l.length := by omega
    have ih := upTo_seq ha s m (by omega)
    rw [show 2 * (m + 1) = 2 * m + 1 + 1 by omega]
    simp only [upTo, evsOf_bg l m hk, evsOf_en l m hk, spS, List.getElem?_eq_getElem hk, ih]
    have h1 : (enE (l[m]'hk)).done = true := rfl
    have h2 : (bgE (l[m]'hk)).done = false := rfl
    have h3 : (bgE (l[m]'hk)).call.s = (l[m]'hk).c.s := rfl
    simp only [h1, h2, h3, true_and, span_seq ha hk]
    simp
/-- one behind the other, each told what it does -/
def chainP : Bool → List UInt8 → List (CallIn × RepIn) → Prop
  | _, _, [] => True
  | has, b, p :: r => sameB (repOf (doR p.1 has b)) p.2 = true ∧ chainP (doR p.1 has b).has (doR p.1 has b).b r
structure Ser (L : List SpIn) : Prop where
  known : ∀ i (hi : i < L.length), (L[i]'hi).known = true
  self : ∀ i (hi : i < L.length), (L[i]'hi).fr ≤ (L[i]'hi).to
  after : ∀ i j (hi : i < L.length) (hj : j < L.length), i < j → (L[i]'hi).to < (L[j]'hj).fr
def crL (L : List SpIn) : List (CallIn × RepIn) := L.map fun p => (p.call, p.rep)
theorem goes_ser {L : List SpIn} (hs : Ser L) : ∀ (n m : Nat) (D : Nat) (has : Bool) (b : List UInt8), L.length - m = n → m ≤ L.length → (∀ j, j < L.length → D.testBit j = decide (j < m)) → (Goes L D has b ↔ chainP has b (crL (L.drop m)))
  | 0, m, D, has, b, hn, hm, hD => by
    have : m = L.length := by omega
    subst this
    rw [List.drop_of_length_le (Nat.le_refl _)]
    refine ⟨fun _ => trivial, fun _ => Goes.fin D has b fun j hj hu => ?_⟩
    have := hD j hj
    rw [decide_eq_true hj] at this
    unfold undone at hu
    rw [this] at hu; cases hu
  | n + 1, m, D, has, b, hn, hm, hD => by
    have hml : m < L.length := by omega
    have hun : undone D m := by
      have := hD m hml
      rw [decide_eq_false (by omega)] at this
      exact this
    have hD2 : ∀ j, j < L.length → (D ||| 1 <<< m).testBit j = decide (j < m + 1) := fun j hj => by
      rw [testBit_or, hD j hj]
      by_cases h1 : j < m
      · simp [h1]; omega
      · by_cases h2 : m = j
        · simp [h2]
        · have : ¬ j < m + 1 := by omega
          simp [h1, h2, this]
    have ih := goes_ser hs n (m + 1) (D ||| 1 <<< m) (doR (L[m]'hml).call has b).has (doR (L[m]'hml).call has b).b (by omega) (by omega) hD2
    rw [List.drop_eq_getElem_cons hml]
    show _ ↔ sameB (repOf (doR (L[m]'hml).call has b)) (L[m]'hml).rep = true ∧ chainP _ _ (crL (L.drop (m + 1)))
    rw [← ih]
    constructor
    · intro hg
      rcases goes_cases hg with h | ⟨i, hi, hmay, hfit, hrest⟩
      · have := h m hml hun
        rw [hs.known m hml] at this; cases this
      · have him : i = m := by
          rcases Nat.lt_trichotomy i m with h | h | h
          · have h9 := hD i hi
            rw [decide_eq_true h] at h9
            have h8 := hmay.1
            unfold undone at h8
            rw [h9] at h8; cases h8
          · exact h
          · have h9 := hmay.2 m hml hun (hs.known m hml) hi
            have := hs.after m i hml hi h
            omega
        subst him
        rcases hfit with hf | hf
        · rw [hs.known i hi] at hf; cases hf
        · exact ⟨hf, hrest⟩
    · rintro ⟨h1, h2⟩
      refine Goes.step D has b m hml ⟨hun, fun j hj hu _ hi => ?_⟩ (.inr h1) h2
      have hjm : m ≤ j := by
        by_cases h : j < m
        · have h9 := hD j hj
          rw [decide_eq_true h] at h9
          unfold undone at hu
          rw [h9] at hu; cases hu
        · omega
      rcases Nat.lt_or_eq_of_le hjm with h | h
      · have a1 := hs.after m j hml hj h
        have a2 := hs.self m hml
        have a3 := hs.self j hj
        omega
      · subst h; exact hs.self m hml
theorem spS_mem {l : List OE} {s : ByteArray} {p : SpIn} : ∀ {m : Nat}, p ∈ spS l s m → p.known = true ∧ p.to = p.fr + 1 ∧ p.fr + 1 < 2 * m
  | 0, h => by cases h
  | m + 1, h => by
    simp only [spS] at h
    rcases List.mem_append.1 h with h | h
    · have := spS_mem h
      exact ⟨this.1, this.2.1, by omega⟩
    · split at h
      · split at h
        · rw [List.mem_singleton] at h; subst h
          refine ⟨rfl, rfl, ?_⟩
          simp only [spK]; omega
        · cases h
      · cases h
theorem spS_after {l : List OE} {s : ByteArray} : ∀ m : Nat, (spS l s m).Pairwise (fun a b => a.to < b.fr)
  | 0 => List.Pairwise.nil
  | m + 1 => by
    simp only [spS]
    rw [List.pairwise_append]
    refine ⟨spS_after m, ?_, fun a ha b hb => ?_⟩
    · split
      · split
        · exact List.pairwise_singleton ..
        · exact List.Pairwise.nil
      · exact List.Pairwise.nil
    · have h1 := spS_mem ha
      split at hb
      · split at hb
        · rw [List.mem_singleton] at hb; subst hb
          simp only [spK]; omega
        · cases hb
      · cases hb
theorem spS_ser (l : List OE) (s : ByteArray) (m : Nat) : Ser (spS l s m) :=
  ⟨fun i hi => (spS_mem (List.getElem_mem hi)).1, fun i hi => by have := (spS_mem (List.getElem_mem hi)).2.1; omega, fun i j hi hj h => List.pairwise_iff_getElem.1 (spS_after m) i j hi hj h⟩
/-- a name's calls and replies -/
def crs (l : List OE) (s : ByteArray) : List (CallIn × RepIn) := (l.filter (fun x => decide (s = x.c.s))).map fun x => (x.c, x.r)
theorem crs_spS (l : List OE) (s : ByteArray) : ∀ m, m ≤ l.length → crL (spS l s m) = crs (l.take m) s
  | 0, _ => rfl
  | m + 1, hm => by
    have hk : m < l.length := by omega
    have ih := crs_spS l s m (by omega)
    rw [List.take_succ_eq_append_getElem hk]
    simp only [spS, List.getElem?_eq_getElem hk, crL, List.map_append, crs, List.filter_append] at ih ⊢
    rw [ih]
    congr 1
    by_cases e : s = (l[m]'hk).c.s
    · rw [if_pos e]; simp [e, spK]
    · rw [if_neg e]; simp [e]
theorem right_seq {l : List OE} (ha : KeysApart l) : RightB (evsOf l) ↔ ∀ s, chainP false [] (crs l s) := by
  have h1 : ∀ s, Goes (upTo (evsOf l) s (evsOf l).length) 0 false [] ↔ chainP false [] (crs l s) := fun s => by
    rw [evsOf_len, upTo_seq ha s l.length (Nat.le_refl _), goes_ser (spS_ser l s l.length) _ 0 0 false [] rfl (Nat.zero_le _) (fun j _ => by simp), List.drop_zero, crs_spS l s l.length (Nat.le_refl _), List.take_length]
  exact ⟨fun h s => (h1 s).1 (h s), fun h s => (h1 s).2 (h s)⟩
/-- such a history may be -/
theorem chk_seq : ∀ {l : List OE} {st : CS}, (∀ x ∈ l, MayC x.c) → KeysApart l → (∀ x ∈ l, (x.kc, x.ks) ∉ st.bs) → (∀ k, k ∈ st.es → k ∈ st.bs) → (∀ s, cntN st.ns s + (crs l s).length ≤ 8) → st.most ≤ 8 → ∃ st', csRun (evsOf l) st = some st' ∧ st'.most ≤ 8
  | [], st, _, _, _, _, _, h => ⟨st, rfl, h⟩
  | x :: l, st, hm, ha, hb, he, hc, h8 => by
    have hbx := hb x (List.mem_cons_self ..)
    have ok1 : csOk st (bgE x) = true := by
      have h1 := hm x (List.mem_cons_self ..)
      unfold csOk
      rw [if_neg (by simp [bgE])]
      simp only [bgE, Bool.and_eq_true, Bool.not_eq_true', Bool.not_false]
      exact ⟨decide_eq_false hbx, trivial, decide_eq_true h1, by decide⟩
    have ok2 : csOk (csStep st (bgE x)) (enE x) = true := by
      have hs : csStep st (bgE x) = { st with ns := x.c.s :: st.ns, most := max st.most (cntN (x.c.s :: st.ns) x.c.s), bs := (x.kc, x.ks) :: st.bs } := rfl
      rw [hs]
      unfold csOk
      rw [if_pos (by rfl)]
      simp only [enE, Bool.and_eq_true, Bool.not_eq_true', Bool.not_false, Bool.true_or]
      exact ⟨decide_eq_true (List.mem_cons_self ..), decide_eq_false (fun h => hbx (he _ h)), (by kernel_rfl : zeroB ⟨0, ⟨#[]⟩, 0, [], 0⟩ = true), trivial⟩
    rw [evsOf, csRun, if_pos ok1, csRun, if_pos ok2]
    have hst : csStep (csStep st (bgE x)) (enE x) = ⟨(x.kc, x.ks) :: (x.kc, x.ks) :: st.bs, (x.kc, x.ks) :: st.es, x.c.s :: st.ns, max st.most (cntN (x.c.s :: st.ns) x.c.s)⟩ := rfl
    rw [hst]
    have hcr : ∀ s, (crs (x :: l) s).length = (crs l s).length + if s = x.c.s then 1 else 0 := fun s => by
      by_cases e : s = x.c.s
      · simp [crs, e]
      · simp [crs, e]
    refine chk_seq (fun y hy => hm y (List.mem_cons_of_mem _ hy)) (List.pairwise_cons.1 ha).2 (fun y hy h => ?_) (fun k hk => ?_) (fun s => ?_) ?_
    · have hne := (List.pairwise_cons.1 ha).1 y hy
      simp only [List.mem_cons] at h
      rcases h with h | h | h
      · exact hne h.symm
      · exact hne h.symm
      · exact hb y (List.mem_cons_of_mem _ hy) h
    · simp only [List.mem_cons] at hk ⊢
      rcases hk with hk | hk
      · exact .inl hk
      · exact .inr (.inr (he k hk))
    · have := hc s
      rw [hcr] at this
      rw [cntN_cons]; omega
    · have := hc x.c.s
      rw [hcr, if_pos rfl] at this
      rw [cntN_cons, if_pos rfl]
      simp only []
      omega
theorem chk_seq0 {l : List OE} (hl : l.length ≤ 32) (hm : ∀ x ∈ l, MayC x.c) (ha : KeysApart l) (hc : ∀ s, (crs l s).length ≤ 8) : chkH (evsOf l) = 0 := by
  obtain ⟨st, h1, h2⟩ := chk_seq (st := ⟨[], [], [], 0⟩) hm ha (fun _ _ h => by cases h) (fun _ h => h) (fun s => by have := hc s; simpa [cntN] using this) (Nat.zero_le _)
  exact chk_of (by rw [evsOf_len]; omega) h1 h2
end Go.Proofs.Ytbbbdhpihcbmmaa
namespace Go.Proofs.Ytbbbdhpihcbmmaa
open Go.RowKit Own

/-- what is asked of such calls -/
structure OkL (l : List OE) : Prop where
  apart : KeysApart l
  n : l.length ≤ 32
  call : ∀ x ∈ l, CallOk x.c ∧ x.c.s.size ≤ 1048576 ∧ (MayC x.c → 0 ≤ x.c.a ∧ 0 ≤ x.c.n ∧ x.c.d.length ≤ 4096)
  ev : ∀ x ∈ evsOf l, EvOk x
def dneB (l : List OE) (s : ByteArray) (m i : Nat) : Bool := match l[i / 2]? with
  | some x => decide (i % 2 = 0 ∧ i / 2 < m ∧ s = x.c.s)
  | none => false
def dnA (l : List OE) (s : ByteArray) (m : Nat) : Array Value := ((List.range (2 * l.length)).map fun i => Value.bool (dneB l s m i)).toArray
theorem dnA_at {l : List OE} {s : ByteArray} {m i : Nat} (hi : i < 2 * l.length) : (dnA l s m)[i]? = some (.bool (dneB l s m i)) := by
  simp [dnA, hi]
theorem dnA_zero (l : List OE) (s : ByteArray) : dnA l s 0 = Array.replicate (2 * l.length) (.bool false) := by
  apply Array.ext_getElem?
  intro i
  by_cases hi : i < 2 * l.length
  · rw [dnA_at hi]
    have : dneB l s 0 i = false := by
      unfold dneB; split <;> simp
    rw [this]; simp [hi]
  · simp [dnA, hi]
/-- the next call of a name -/
def NextK (l : List OE) (s : ByteArray) (m k : Nat) : Prop := m ≤ k ∧ ∃ hk : k < l.length, s = (l[k]'hk).c.s ∧ ∀ (q : Nat) (hq : q < l.length), m ≤ q → q < k → s ≠ (l[q]'hq).c.s
def NoneK (l : List OE) (s : ByteArray) (m : Nat) : Prop := ∀ (q : Nat) (hq : q < l.length), m ≤ q → s ≠ (l[q]'hq).c.s
theorem next_or (l : List OE) (s : ByteArray) : ∀ (n m : Nat), l.length - m = n → NoneK l s m ∨ ∃ k, NextK l s m k
  | 0, m, h => .inl fun q hq hm => by omega
  | n + 1, m, h => by
    have hm : m < l.length := by omega
    by_cases e : s = (l[m]'hm).c.s
    · exact .inr ⟨m, Nat.le_refl _, hm, e, fun q hq h1 h2 => by omega⟩
    · rcases next_or l s n (m + 1) (by omega) with h1 | ⟨k, h1, hk, h2, h3⟩
      · left
        intro q hq hmq
        by_cases hqm : q = m
        · subst hqm; exact e
        · exact h1 q hq (by omega)
      · right
        refine ⟨k, by omega, hk, h2, fun q hq h4 h5 => ?_⟩
        by_cases hqm : q = m
        · subst hqm; exact e
        · exact h3 q hq (by omega) h5
theorem crs_none {l : List OE} {s : ByteArray} {m : Nat} (h : NoneK l s m) : crs (l.drop m) s = [] := by
  unfold crs
  rw [List.map_eq_nil_iff, List.filter_eq_nil_iff]
  intro x hx
  obtain ⟨i, hi, rfl⟩ := List.getElem_of_mem hx
  rw [List.getElem_drop]
  have hi' : m + i < l.length := by rw [List.length_drop] at hi; omega
  simpa using h (m + i) hi' (by omega)
theorem crs_next {l : List OE} {s : ByteArray} {m k : Nat} (h : NextK l s m k) : ∃ hk : k < l.length, crs (l.drop m) s = ((l[k]'hk).c, (l[k]'hk).r) :: crs (l.drop (k + 1)) s := by
  obtain ⟨hm, hk, hs, hno⟩ := h
  refine ⟨hk, ?_⟩
  have e : l.drop m = (l.drop m).take (k - m) ++ l.drop k := by
    have h := (List.take_append_drop (k - m) (l.drop m)).symm
    rw [List.drop_drop, show m + (k - m) = k by omega] at h
    exact h
  rw [e]
  unfold crs
  rw [List.filter_append, List.map_append, List.drop_eq_getElem_cons hk]
  have h0 : ((l.drop m).take (k - m)).filter (fun x => decide (s = x.c.s)) = [] := by
    rw [List.filter_eq_nil_iff]
    intro x hx
    obtain ⟨i, hi, rfl⟩ := List.getElem_of_mem hx
    rw [List.length_take, List.length_drop] at hi
    rw [List.getElem_take, List.getElem_drop]
    simpa using hno (m + i) (by omega) (by omega) (by omega)
  rw [h0, List.map_nil, List.nil_append, List.filter_cons_of_pos (by simpa using hs)]
  rfl
theorem dne_set {l : List OE} {s : ByteArray} {m k : Nat} (h : NextK l s m k) : (dnA l s m).setIfInBounds (2 * k) (.bool true) = dnA l s (k + 1) := by
  obtain ⟨hm, hk, hs, hno⟩ := h
  apply Array.ext_getElem?
  intro i
  by_cases hi : i < 2 * l.length
  · rw [dnA_at hi]
    by_cases e : 2 * k = i
    · subst e
      rw [Array.getElem?_setIfInBounds, if_pos rfl, if_pos (by simp [dnA]; omega)]
      have : dneB l s (k + 1) (2 * k) = true := by
        unfold dneB
        rw [show 2 * k / 2 = k by omega, List.getElem?_eq_getElem hk]
        simp only [decide_eq_true_eq]
        exact ⟨by omega, by omega, hs⟩
      rw [this]
    · rw [Array.getElem?_setIfInBounds, if_neg e, dnA_at hi]
      have : dneB l s m i = dneB l s (k + 1) i := by
        unfold dneB
        have hi2 : i / 2 < l.length := by omega
        rw [List.getElem?_eq_getElem hi2]
        simp only [decide_eq_decide]
        constructor
        · rintro ⟨h1, h2, h3⟩; exact ⟨h1, by omega, h3⟩
        · rintro ⟨h1, h2, h3⟩
          refine ⟨h1, ?_, h3⟩
          by_cases hlt : i / 2 < m
          · exact hlt
          · exact absurd h3 (hno (i / 2) hi2 (by omega) (by omega))
      rw [this]
  · have h1 : (dnA l s m).size ≤ i := by simp [dnA]; omega
    have h2 : (dnA l s (k + 1)).size ≤ i := by simp [dnA]; omega
    rw [Array.getElem?_eq_none (by simpa using h1), Array.getElem?_eq_none h2]
theorem dne_back {l : List OE} {s : ByteArray} {m k : Nat} (h : NextK l s m k) : (dnA l s (k + 1)).setIfInBounds (2 * k) (.bool false) = dnA l s m := by
  have h9 := h
  obtain ⟨hm, hk, hs, hno⟩ := h
  rw [← dne_set h9]
  apply Array.ext_getElem?
  intro i
  by_cases e : 2 * k = i
  · subst e
    rw [Array.getElem?_setIfInBounds, if_pos rfl, if_pos (by simp [dnA]; omega), dnA_at (by omega)]
    have : dneB l s m (2 * k) = false := by
      unfold dneB
      rw [show 2 * k / 2 = k by omega, List.getElem?_eq_getElem hk]
      simp only [decide_eq_false_iff_not]
      omega
    rw [this]
  · rw [Array.getElem?_setIfInBounds, if_neg e, Array.getElem?_setIfInBounds, if_neg e]
end Go.Proofs.Ytbbbdhpihcbmmaa
namespace Go.Proofs.Ytbbbdhpihcbmmaa
open Go.RowKit Own

def chainB : Bool → List UInt8 → List (CallIn × RepIn) → Bool
  | _, _, [] => true
  | has, b, p :: r => sameB (repOf (doR p.1 has b)) p.2 && chainB (doR p.1 has b).has (doR p.1 has b).b r
theorem chainB_iff : ∀ (L : List (CallIn × RepIn)) (has : Bool) (b : List UInt8), chainP has b L ↔ chainB has b L = true
  | [], _, _ => by simp [chainP, chainB]
  | p :: r, has, b => by simp only [chainP, chainB, Bool.and_eq_true, chainB_iff r]
/-- the object behind them -/
def finO : Bool → List UInt8 → List (CallIn × RepIn) → Bool × List UInt8
  | has, b, [] => (has, b)
  | has, b, p :: r => finO (doR p.1 has b).has (doR p.1 has b).b r
theorem finO_snoc (p : CallIn × RepIn) : ∀ (L : List (CallIn × RepIn)) (has : Bool) (b : List UInt8), finO has b (L ++ [p]) = ((doR p.1 (finO has b L).1 (finO has b L).2).has, (doR p.1 (finO has b L).1 (finO has b L).2).b)
  | [], _, _ => rfl
  | q :: r, has, b => by simp only [List.cons_append, finO]; exact finO_snoc p r _ _
theorem chain_mid {p : CallIn × RepIn} {M : List (CallIn × RepIn)} : ∀ {L : List (CallIn × RepIn)} {has : Bool} {b : List UInt8}, chainP has b (L ++ p :: M) → sameB (repOf (doR p.1 (finO has b L).1 (finO has b L).2)) p.2 = true
  | [], _, _, h => h.1
  | _ :: r, _, _, h => by
    simp only [List.cons_append, chainP] at h
    exact chain_mid (L := r) h.2
theorem chain_snoc {p : CallIn × RepIn} : ∀ {L : List (CallIn × RepIn)} {has : Bool} {b : List UInt8}, chainP has b L → sameB (repOf (doR p.1 (finO has b L).1 (finO has b L).2)) p.2 = true → chainP has b (L ++ [p])
  | [], _, _, _, h => ⟨h, trivial⟩
  | _ :: r, _, _, h, h2 => ⟨h.1, chain_snoc (L := r) h.2 h2⟩
theorem crs_append (l m : List OE) (s : ByteArray) : crs (l ++ m) s = crs l s ++ crs m s := by simp [crs]
theorem crs_one (x : OE) (s : ByteArray) : crs [x] s = if s = x.c.s then [(x.c, x.r)] else [] := by
  by_cases e : s = x.c.s
  · rw [if_pos e]; simp [crs, e]
  · rw [if_neg e]; simp [crs, e]
theorem crs_snoc (l : List OE) (x : OE) (s : ByteArray) : crs (l ++ [x]) s = if s = x.c.s then crs l s ++ [(x.c, x.r)] else crs l s := by
  rw [crs_append, crs_one]
  by_cases e : s = x.c.s
  · rw [if_pos e, if_pos e]
  · rw [if_neg e, if_neg e, List.append_nil]
/-- one reply's code is one more -/
def turnE (x : OE) : OE := ⟨x.c, x.kc, x.ks, ⟨x.r.code + 1, x.r.size, x.r.d⟩⟩
theorem turn_split {l : List OE} {i : Nat} (hi : i < l.length) : l = l.take i ++ (l[i]'hi) :: l.drop (i + 1) ∧ l.set i (turnE (l[i]'hi)) = l.take i ++ turnE (l[i]'hi) :: l.drop (i + 1) :=
  ⟨by rw [← List.drop_eq_getElem_cons hi, List.take_append_drop], by rw [List.set_eq_take_append_cons_drop, if_pos hi]⟩
theorem turn_bad {l : List OE} {i : Nat} (hi : i < l.length) (h : ∀ s, chainP false [] (crs l s)) : ¬ chainP false [] (crs (l.set i (turnE (l[i]'hi))) (l[i]'hi).c.s) := by
  obtain ⟨e1, e2⟩ := turn_split hi
  generalize hx : l[i]'hi = x at *
  have h1 := h x.c.s
  rw [e1, crs_append, show x :: l.drop (i + 1) = [x] ++ l.drop (i + 1) from rfl, crs_append, crs_one, if_pos rfl] at h1
  rw [e2, crs_append, show turnE x :: l.drop (i + 1) = [turnE x] ++ l.drop (i + 1) from rfl, crs_append, crs_one, if_pos (show x.c.s = (turnE x).c.s from rfl)]
  intro h2
  have a1 := chain_mid h1
  have a2 := chain_mid h2
  simp only [sameB, Bool.and_eq_true, beq_iff_eq] at a1 a2
  have b1 := a1.1
  have b2 : _ = x.r.code + 1 := a2.1
  rw [show (turnE x).c = x.c from rfl, b1] at b2
  omega
theorem turn_keys {l : List OE} {i : Nat} (hi : i < l.length) (h : KeysApart l) : KeysApart (l.set i (turnE (l[i]'hi))) := by
  obtain ⟨e1, e2⟩ := turn_split hi
  generalize hx : l[i]'hi = x at *
  unfold KeysApart at h ⊢
  rw [e2]
  rw [e1] at h
  rw [List.pairwise_append, List.pairwise_cons] at h ⊢
  refine ⟨h.1, ⟨h.2.1.1, h.2.1.2⟩, fun a ha b hb => ?_⟩
  rcases List.mem_cons.1 hb with rfl | hb
  · exact h.2.2 a ha x (List.mem_cons_self ..)
  · exact h.2.2 a ha b (List.mem_cons_of_mem _ hb)
theorem turn_crs {l : List OE} {i : Nat} (hi : i < l.length) (s : ByteArray) : (crs (l.set i (turnE (l[i]'hi))) s).length = (crs l s).length := by
  obtain ⟨e1, e2⟩ := turn_split hi
  generalize hx : l[i]'hi = x at *
  rw [e2]
  conv => rhs; rw [e1]
  rw [crs_append, crs_append, show x :: l.drop (i + 1) = [x] ++ l.drop (i + 1) from rfl, show turnE x :: l.drop (i + 1) = [turnE x] ++ l.drop (i + 1) from rfl, crs_append, crs_append, crs_one, crs_one]
  simp only [List.length_append, show (turnE x).c = x.c from rfl]
  by_cases e : s = x.c.s
  · simp [e]
  · simp [e]
theorem turn_mem {l : List OE} {i : Nat} (hi : i < l.length) {p : OE} (hp : p ∈ l.set i (turnE (l[i]'hi))) : ∃ q ∈ l, p.c = q.c ∧ p.kc = q.kc ∧ p.ks = q.ks ∧ p.r.d = q.r.d := by
  rcases List.mem_or_eq_of_mem_set hp with h | h
  · exact ⟨p, h, rfl, rfl, rfl, rfl⟩
  · exact ⟨l[i]'hi, List.getElem_mem hi, by rw [h]; exact ⟨rfl, rfl, rfl, rfl⟩⟩
theorem evsOf_turn : ∀ (l : List OE) (i : Nat) (hi : i < l.length), (evsOf l).set (2 * i + 1) (enE (turnE (l[i]'hi))) = evsOf (l.set i (turnE (l[i]'hi)))
  | x :: l, 0, _ => rfl
  | x :: l, i + 1, hi => by
    have ih := evsOf_turn l i (by simpa using hi)
    simp only [evsOf, List.getElem_cons_succ, List.set_cons_succ, show 2 * (i + 1) + 1 = 2 * i + 1 + 1 + 1 by omega]
    rw [ih]
end Go.Proofs.Ytbbbdhpihcbmmaa
namespace Go.Proofs.Ytbbbdhpihcbmmaa
open Go.RowKit Own

theorem wf_of {n : Int} (h1 : -9223372036854775808 ≤ n) (h2 : n ≤ 9223372036854775807) : (Lit.int .i64 n).wf = true := by
  simpa [Lit.wf, IntKind.min, IntKind.max, IntKind.signed, IntKind.bits] using And.intro h1 h2
def newE (l : List OE) (j : Nat) (c : CallIn) : OE := ⟨c, (j : Int) % 3, (j : Int), repOf (doR c (finO false [] (crs l c.s)).1 (finO false [] (crs l c.s)).2)⟩
theorem doR_data (c : CallIn) (has : Bool) (b : List UInt8) (hb : b.length ≤ 4096) : (doR c has b).data.length ≤ 4096 := by
  have hB : (if has = true then b else []).length ≤ 4096 := by
    split
    · exact hb
    · exact Nat.zero_le _
  unfold doR
  generalize (if has = true then b else []) = B at *
  simp only []
  split
  · exact Nat.zero_le _
  · split
    · split <;> exact Nat.zero_le _
    · split
      · exact Nat.zero_le _
      · split
        · split <;> exact Nat.zero_le _
        · split
          · split <;> exact Nat.zero_le _
          · split
            · simp only [List.length_take, List.length_drop]; omega
            · split <;> exact Nat.zero_le _
theorem doR_code (c : CallIn) (has : Bool) (b : List UInt8) : 0 ≤ (doR c has b).code ∧ (doR c has b).code ≤ 6 := by
  unfold doR
  generalize (if has = true then b else []) = B at *
  simp only []
  split
  · exact ⟨by simp, by simp⟩
  · split
    · split <;> exact ⟨by simp, by simp⟩
    · split
      · exact ⟨by simp, by simp⟩
      · split
        · split <;> exact ⟨by simp, by simp⟩
        · split
          · split <;> exact ⟨by simp, by simp⟩
          · split
            · exact ⟨by simp, by simp⟩
            · split <;> exact ⟨by simp, by simp⟩
structure PO (l : List OE) (j : Nat) : Prop where
  n : l.length ≤ 31
  chain : ∀ s, chainP false [] (crs l s)
  cnt : ∀ s, (crs l s).length ≤ 8
  key : ∀ x ∈ l, 0 ≤ x.ks ∧ x.ks < (j : Int) ∧ (-3 < x.kc ∧ x.kc < 3)
  apart : KeysApart l
  call : ∀ x ∈ l, CallOk x.c ∧ x.c.s.size ≤ 1048576 ∧ MayC x.c
  rd : ∀ x ∈ l, x.r.d.length ≤ 4096
  len : ∀ s, (finO false [] (crs l s)).2.length ≤ 4096
  code : ∀ x ∈ l, 0 ≤ x.r.code ∧ x.r.code ≤ 6
theorem PO.nil : PO [] 0 := ⟨Nat.zero_le _, fun _ => trivial, fun _ => Nat.zero_le _, fun _ h => (by cases h), List.Pairwise.nil, fun _ h => (by cases h), fun _ h => (by cases h), fun _ => Nat.zero_le _, fun _ h => (by cases h)⟩
theorem PO.skip {l : List OE} {j : Nat} (h : PO l j) : PO l (j + 1) := ⟨h.n, h.chain, h.cnt, fun x hx => by have := h.key x hx; omega, h.apart, h.call, h.rd, h.len, h.code⟩
theorem sameB_self (r : RepIn) : sameB r r = true := by simp [sameB]
theorem PO.add {l : List OE} {j : Nat} (h : PO l j) (hn : l.length ≤ 30) {c : CallIn} (hok : CallOk c) (hs : c.s.size ≤ 1048576) (hm : MayC c) (h8 : (crs l c.s).length < 8) : PO (l ++ [newE l j c]) (j + 1) := by
  have hcr : ∀ s, crs (l ++ [newE l j c]) s = if s = c.s then crs l s ++ [(c, (newE l j c).r)] else crs l s := fun s => crs_snoc l _ s
  refine ⟨by simp; omega, fun s => ?_, fun s => ?_, fun x hx => ?_, ?_, fun x hx => ?_, fun x hx => ?_, fun s => ?_, fun x hx => ?_⟩
  · rw [hcr]
    split
    · rename_i e
      subst e
      exact chain_snoc (h.chain _) (sameB_self _)
    · exact h.chain s
  · rw [hcr]
    split
    · rename_i e
      subst e
      simp; omega
    · exact h.cnt s
  · rcases List.mem_append.1 hx with hx | hx
    · have := h.key x hx; omega
    · rw [List.mem_singleton] at hx
      subst hx
      simp only [newE]
      omega
  · unfold KeysApart
    rw [List.pairwise_append]
    refine ⟨h.apart, List.pairwise_singleton .., fun a ha b hb => ?_⟩
    rw [List.mem_singleton] at hb
    subst hb
    have := (h.key a ha).2.1
    intro e
    rw [Prod.mk.injEq] at e
    simp only [newE] at e
    omega
  · rcases List.mem_append.1 hx with hx | hx
    · exact h.call x hx
    · rw [List.mem_singleton] at hx
      subst hx
      exact ⟨hok, hs, hm⟩
  · rcases List.mem_append.1 hx with hx | hx
    · exact h.rd x hx
    · rw [List.mem_singleton] at hx
      subst hx
      exact doR_data _ _ _ (h.len _)
  · rw [hcr]
    split
    · rename_i e
      subst e
      rw [finO_snoc]
      exact doR_len _ _ _ (h.len _) (fun m => ⟨m.2.2.2.1, m.2.2.2.2.1, m.2.2.2.2.2.1⟩)
    · exact h.len s
  · rcases List.mem_append.1 hx with hx | hx
    · exact h.code x hx
    · rw [List.mem_singleton] at hx
      subst hx
      exact doR_code _ _ _
theorem evOk_of {l : List OE} (h : ∀ x ∈ l, EvOk (bgE x) ∧ EvOk (enE x)) : ∀ e ∈ evsOf l, EvOk e := by
  induction l with
  | nil => intro e he; cases he
  | cons x l ih =>
    intro e he
    simp only [evsOf, List.mem_cons] at he
    rcases he with rfl | rfl | he
    · exact (h x (List.mem_cons_self ..)).1
    · exact (h x (List.mem_cons_self ..)).2
    · exact ih (fun y hy => h y (List.mem_cons_of_mem _ hy)) e he
/-- what is there with it -/
structure PF (l : List OE) : Prop where
  ok : OkL l
  chk : chkH (evsOf l) = 0
theorem PO.fin {l : List OE} {j : Nat} (h : PO l j) (hj : j ≤ 9223372036854775807) : PF l ∧ RightB (evsOf l) := by
  refine ⟨⟨⟨h.apart, by have := h.n; omega, fun x hx => ⟨(h.call x hx).1, (h.call x hx).2.1, fun m => ⟨m.2.2.2.1, m.2.2.2.2.1, m.2.2.2.2.2.1⟩⟩, evOk_of fun x hx => ?_⟩, chk_seq0 (by have := h.n; omega) (fun x hx => (h.call x hx).2.2) h.apart h.cnt⟩, (right_seq h.apart).2 h.chain⟩
  have hk := h.key x hx
  have w1 : (Lit.int .i64 x.kc).wf = true := wf_of (by omega) (by omega)
  have w2 : (Lit.int .i64 x.ks).wf = true := wf_of (by omega) (by omega)
  exact ⟨⟨w1, w2, (h.call x hx).1, Nat.zero_le _⟩, ⟨w1, w2, ⟨(rfl : (Lit.int .i64 0).wf = true), (rfl : (Lit.int .i64 0).wf = true), (rfl : (Lit.int .i64 0).wf = true), Nat.zero_le _, Nat.zero_le _⟩, by have := h.rd x hx; simp only [enE]; omega⟩⟩
theorem PO.turn {l : List OE} {j : Nat} (h : PO l j) (hj : j ≤ 9223372036854775807) {i : Nat} (hi : i < l.length) : PF (l.set i (turnE (l[i]'hi))) ∧ ¬ RightB (evsOf (l.set i (turnE (l[i]'hi)))) ∧ ¬ chainP false [] (crs (l.set i (turnE (l[i]'hi))) (l[i]'hi).c.s) := by
  have hbad := turn_bad hi h.chain
  have hap := turn_keys hi h.apart
  have hc : ∀ x ∈ l.set i (turnE (l[i]'hi)), CallOk x.c ∧ x.c.s.size ≤ 1048576 ∧ MayC x.c := fun x hx => by
    obtain ⟨q, hq, e, _⟩ := turn_mem hi hx
    rw [e]; exact h.call q hq
  refine ⟨⟨⟨hap, by have := h.n; simp; omega, fun x hx => ⟨(hc x hx).1, (hc x hx).2.1, fun m => ⟨m.2.2.2.1, m.2.2.2.2.1, m.2.2.2.2.2.1⟩⟩, evOk_of fun x hx => ?_⟩, chk_seq0 (by have := h.n; simp; omega) (fun x hx => (hc x hx).2.2) hap (fun s => by rw [turn_crs hi]; exact h.cnt s)⟩, fun hr => hbad ((right_seq hap).1 hr _), hbad⟩
  obtain ⟨q, hq, e, e1, e2, e3⟩ := turn_mem hi hx
  have hk := h.key q hq
  have w1 : (Lit.int .i64 x.kc).wf = true := by rw [e1]; exact wf_of (by omega) (by omega)
  have w2 : (Lit.int .i64 x.ks).wf = true := by rw [e2]; exact wf_of (by omega) (by omega)
  exact ⟨⟨w1, w2, (hc x hx).1, Nat.zero_le _⟩, ⟨w1, w2, ⟨(rfl : (Lit.int .i64 0).wf = true), (rfl : (Lit.int .i64 0).wf = true), (rfl : (Lit.int .i64 0).wf = true), Nat.zero_le _, Nat.zero_le _⟩, by have := h.rd q hq; simp only [enE]; rw [e3]; omega⟩⟩
end Go.Proofs.Ytbbbdhpihcbmmaa
namespace Go.Proofs.Ytbbbdhpihcbmmaa
open Go.RowKit Own
open Go.Maps (Keyed)

theorem nou8_evs {L : List EvV} {w : World} (hr : ∀ p ∈ L, EvReads w p) : ∀ y, Value.int .u8 y ∉ cellsEv L := by
  intro y hy
  obtain ⟨p, hp, hu⟩ := List.mem_flatMap.1 hy
  obtain ⟨⟨xc, xk, done, unk, ⟨k, s, a, d, n⟩, ⟨code, size, rd⟩⟩, dv, rv⟩ := p
  have h := hr _ hp
  obtain ⟨dA, dc, h1⟩ := h.1.slice
  obtain ⟨rA, rc, h2⟩ := h.2.slice
  dsimp only at h1 h2
  subst h1
  subst h2
  simp [evL, evC] at hu
theorem nou8_zeroEv : ∀ (j : Nat) (y : Int), (Value.agg #[.int .i64 0, .int .i64 0, .bool false, .bool false, .int .i64 0, .string ⟨#[]⟩, .int .i64 0, .slice none 0 0, .int .i64 0, .int .i64 0, .int .i64 0, .slice none 0 0]).cells[j]? ≠ some (.int .u8 y) := fun j y h => by
  have := List.mem_of_getElem? (show (Value.agg #[.int .i64 0, .int .i64 0, .bool false, .bool false, .int .i64 0, .string ⟨#[]⟩, .int .i64 0, .slice none 0 0, .int .i64 0, .int .i64 0, .int .i64 0, .slice none 0 0]).cells.toList[j]? = some (.int .u8 y) by rw [Array.getElem?_toList]; exact h)
  simp [Value.cells] at this
/-- no byte lies in the row's block -/
def RowNo (w : World) (v : Value) : Prop := ∀ g cur, v.ownBlock = some g → w.heap[g]? = some (.cells cur 44 (0, 0)) → NoU8 cur
theorem reads_far {w w' : World} {v : Value} {l : List UInt8} {ks : List Nat} (h : ReadsB w v l) (hc : Chg ks w w') (hk : ∀ k ∈ ks, ∀ ad : Addr, ad.block = k → ∀ y, w.cell? ad ≠ some (.int .u8 y)) : ReadsB w' v l := by
  rcases h with h | ⟨a, c, hv, hcl⟩
  · exact .inl h
  · refine .inr ⟨a, c, hv, fun j u hu => ?_⟩
    have h1 := hcl j u hu
    have hx2 : ∃ y, u = .int .u8 y := by
      simp only [u8s, List.getElem?_map, Option.map_eq_some_iff] at hu
      obtain ⟨q, _, rfl⟩ := hu
      exact ⟨_, rfl⟩
    obtain ⟨y, rfl⟩ := hx2
    have hlt := World.block_lt_of_cell? w _ h1
    rw [World.cell?_of_block (hc.block _ hlt fun hm => hk _ hm _ rfl y h1)]
    exact h1
theorem map_no8 {w : World} {b : Nat} {es : Array MapEntry} {c : Nat} (h : w.heap[b]? = some (.map es c)) : ∀ ad : Addr, ad.block = b → ∀ y, w.cell? ad ≠ some (.int .u8 y) := fun ad he y hc => by
  subst he
  unfold World.cell? at hc
  rw [h] at hc
  cases hc
theorem row_no8 {w : World} {b : Nat} {cur : Array Value} {t : TypeId} {fr : Nat × Nat} (h : w.heap[b]? = some (.cells cur t fr)) (hu : NoU8 cur) : ∀ ad : Addr, ad.block = b → ∀ y, w.cell? ad ≠ some (.int .u8 y) := fun _ he _ hc =>
  nou8_far h hu hc he
def objV (has : Bool) (v : Value) : Value := .agg #[.bool has, v]
/-- the loop's state: h is the row of l's events, the objects are behind lo, the counts of lc -/
structure OS (w0 : World) (mo mc : Nat) (hv : Value) (L : List EvV) (l lo lc : List OE) (fo fc : Value → Option Value) (w : World) : Prop where
  bel : Below w0.heap.size w0 w
  ev : L.map Prod.fst = evsOf l
  own : w.ownsRow w0.heap.size 44 12 hv L.length (cellsEv L)
  no : RowNo w hv
  rd : ∀ p ∈ L, EvReads w p
  mO : ∃ n, MapIs Try.prog 9 mo n fo w
  mC : ∃ n, MapIs Try.prog 9 mc n fc w
  bo : w0.heap.size ≤ mo
  bc : w0.heap.size ≤ mc
  ne : mo ≠ mc
  obj : ∀ s, ∃ A m c, (fo (.string s)).getD (objV false (.slice none 0 0)) = objV (finO false [] (crs lo s)).1 (.slice A m c) ∧ ReadsB w (.slice A m c) (finO false [] (crs lo s)).2
  cnt : ∀ s, (fc (.string s)).getD (.int .i64 0) = .int .i64 ((crs lc s).length : Int)
theorem EvReads.far {w w' : World} {p : EvV} {ks : List Nat} (h : EvReads w p) (hc : Chg ks w w') (hk : ∀ k ∈ ks, ∀ ad : Addr, ad.block = k → ∀ y, w.cell? ad ≠ some (.int .u8 y)) : EvReads w' p := ⟨reads_far h.1 hc hk, reads_far h.2 hc hk⟩
theorem zeroObj (w : World) : (zeroValue 38).run Try.prog w = .ok (objV false (.slice none 0 0)) w := by kernel_rfl

section
variable {w0 w w' : World} {mo mc : Nat} {hv : Value} {L : List EvV} {l lo lc : List OE} {fo fc : Value → Option Value}
theorem OS.go (h : OS w0 mo mc hv L l lo lc fo fc w) (hb : Below w.heap.size w w') : OS w0 mo mc hv L l lo lc fo fc w' := by
  refine ⟨h.bel.trans (hb.mono h.bel.size), h.ev, own_below h.own hb, fun g cur hg hc => ?_, fun p hp => ⟨(h.rd p hp).1.below hb, (h.rd p hp).2.below hb⟩, ?_, ?_, h.bo, h.bc, h.ne, fun s => ?_, h.cnt⟩
  · have hlt := (h.own.lt g hg).2
    rw [hb.block g hlt] at hc
    exact h.no g cur hg hc
  · obtain ⟨n, hn⟩ := h.mO
    exact ⟨n, hn.same (hb.block _ hn.lt)⟩
  · obtain ⟨n, hn⟩ := h.mC
    exact ⟨n, hn.same (hb.block _ hn.lt)⟩
  · obtain ⟨A, m, c, h1, h2⟩ := h.obj s
    exact ⟨A, m, c, h1, h2.below hb⟩
/-- a map is turned: the row and what is read stand -/
theorem OS.chg {k : Nat} {es : Array MapEntry} {cl : Nat} (h : OS w0 mo mc hv L l lo lc fo fc w) (hk : w.heap[k]? = some (.map es cl)) (hB : w0.heap.size ≤ k) (hc : Chg [k] w w') :
    Below w0.heap.size w0 w' ∧ w'.ownsRow w0.heap.size 44 12 hv L.length (cellsEv L) ∧ RowNo w' hv ∧ (∀ p ∈ L, EvReads w' p) ∧ ∀ v b, ReadsB w v b → ReadsB w' v b := by
  have h8 : ∀ q ∈ [k], ∀ ad : Addr, ad.block = q → ∀ y, w.cell? ad ≠ some (.int .u8 y) := fun q hq => by
    rw [List.mem_singleton] at hq; subst hq; exact map_no8 hk
  have hown : ∀ g, hv.ownBlock = some g → w'.heap[g]? = w.heap[g]? := fun g hg => by
    obtain ⟨cur, hcur⟩ := own_type h.own hg
    refine hc.block g (h.own.lt g hg).2 ?_
    rw [List.mem_singleton]
    rintro rfl
    rw [hk] at hcur; cases hcur
  exact ⟨h.bel.trans (hc.below h.bel.size (by simpa using hB)), own_same h.own hown, fun g cur hg hcur => h.no g cur hg (by rw [← hown g hg]; exact hcur), fun p hp => (h.rd p hp).far hc h8, fun v b hr => reads_far hr hc h8⟩
theorem OS.look_c (h : OS w0 mo mc hv L l lo lc fo fc w) (s : ByteArray) (hs : s.size ≤ 140737488351232) (W : World) (hb : Below w.heap.size w W) : (Instr.lookup 36 (.map (some mc)) (.string s) false).run Try.prog W = .ok (.int .i64 ((crs lc s).length : Int)) W := by
  obtain ⟨kl, hk⟩ := keyStr s hs
  obtain ⟨n, hn⟩ := h.mC
  rw [(hn.same (hb.block _ hn.lt)).look (t := 36) keyedStr Try.underlying36 (zeroInt W) hk, h.cnt]
theorem OS.look_o (h : OS w0 mo mc hv L l lo lc fo fc w) (s : ByteArray) (hs : s.size ≤ 140737488351232) : ∃ A m c, ReadsB w (.slice A m c) (finO false [] (crs lo s)).2 ∧ ∀ W, Below w.heap.size w W → (Instr.lookup 35 (.map (some mo)) (.string s) false).run Try.prog W = .ok (objV (finO false [] (crs lo s)).1 (.slice A m c)) W := by
  obtain ⟨kl, hk⟩ := keyStr s hs
  obtain ⟨n, hn⟩ := h.mO
  obtain ⟨A, m, c, h1, h2⟩ := h.obj s
  refine ⟨A, m, c, h2, fun W hb => ?_⟩
  rw [(hn.same (hb.block _ hn.lt)).look (t := 35) keyedStr Try.underlying35 (zeroObj W) hk, h1]
theorem OS.count (h : OS w0 mo mc hv L l lo lc fo fc w) (x : OE) (hs : x.c.s.size ≤ 140737488351232) :
    ∃ w' fc', (Instr.mapUpdate 36 (.map (some mc)) (.string x.c.s) (.int .i64 (((crs lc x.c.s).length : Int) + 1))).run Try.prog w = .ok () w' ∧ OS w0 mo mc hv L l lo (lc ++ [x]) fo fc' w' ∧ ∀ v b, ReadsB w v b → ReadsB w' v b := by
  obtain ⟨kl, hk⟩ := keyStr x.c.s hs
  obtain ⟨n, hn⟩ := h.mC
  obtain ⟨w', hr, hm, hc⟩ := hn.store (t := 36) (e := 3) (val := .int .i64 (((crs lc x.c.s).length : Int) + 1)) keyedStr Try.underlying36 hk
  obtain ⟨es, cl, hes, _⟩ := id hn
  obtain ⟨h1, h2, h3, h4, h5⟩ := h.chg hes h.bc hc
  refine ⟨w', _, hr, ⟨h1, h.ev, h2, h3, h4, ?_, ⟨_, hm⟩, h.bo, h.bc, h.ne, fun s => ?_, fun s => ?_⟩, h5⟩
  · obtain ⟨n2, hn2⟩ := h.mO
    exact ⟨n2, hn2.chg hc (by simpa using h.ne)⟩
  · obtain ⟨A, m, c, e1, e2⟩ := h.obj s
    exact ⟨A, m, c, e1, h5 _ _ e2⟩
  · rw [crs_snoc]
    by_cases e : s = x.c.s
    · subst e
      rw [putKey_same, if_pos rfl]
      simp
    · rw [putKey_other _ _ (fun h => e (Value.string.inj h)), if_neg e, h.cnt]
theorem OS.putO (h : OS w0 mo mc hv L l lo lc fo fc w) (x : OE) (hs : x.c.s.size ≤ 140737488351232) (D : DoR) (hD : D = doR x.c (finO false [] (crs lo x.c.s)).1 (finO false [] (crs lo x.c.s)).2) (A : Option Addr) (m c : Nat) (hb : ReadsB w (.slice A m c) D.b) :
    ∃ w' fo', (Instr.mapUpdate 35 (.map (some mo)) (.string x.c.s) (objV D.has (.slice A m c))).run Try.prog w = .ok () w' ∧ OS w0 mo mc hv L l (lo ++ [x]) lc fo' fc w' ∧ (∀ v b, ReadsB w v b → ReadsB w' v b) ∧ Chg [mo] w w' ∧ ∃ es cl, w.heap[mo]? = some (.map es cl) := by
  obtain ⟨kl, hk⟩ := keyStr x.c.s hs
  obtain ⟨n, hn⟩ := h.mO
  obtain ⟨w', hr, hm, hc⟩ := hn.store (t := 35) (e := 38) (val := objV D.has (.slice A m c)) keyedStr Try.underlying35 hk
  obtain ⟨es, cl, hes, _⟩ := id hn
  obtain ⟨h1, h2, h3, h4, h5⟩ := h.chg hes h.bo hc
  refine ⟨w', _, hr, ⟨h1, h.ev, h2, h3, h4, ⟨_, hm⟩, ?_, h.bo, h.bc, h.ne, fun s => ?_, h.cnt⟩, h5, hc, es, cl, hes⟩
  · obtain ⟨n2, hn2⟩ := h.mC
    exact ⟨n2, hn2.chg hc (by simpa using fun e => h.ne e.symm)⟩
  · rw [crs_snoc]
    by_cases e : s = x.c.s
    · subst e
      rw [putKey_same, if_pos rfl, finO_snoc]
      refine ⟨A, m, c, by rw [hD]; rfl, ?_⟩
      have := h5 _ _ hb
      rw [hD] at this
      exact this
    · rw [putKey_other _ _ (fun h => e (Value.string.inj h)), if_neg e]
      obtain ⟨A', m', c', e1, e2⟩ := h.obj s
      exact ⟨A', m', c', e1, h5 _ _ e2⟩
/-- two events more -/
theorem OS.app (h : OS w0 mo mc hv L l lo lc fo fc w) (x : OE) (Y : World) (hY : Below w.heap.size w Y) (dA rA : Option Addr) (dc rc nb cap : Nat)
    (hd : ReadsB Y (.slice dA x.c.d.length dc) x.c.d) (hr : ReadsB Y (.slice rA x.r.d.length rc) x.r.d) (hnb : Y.heap[nb]? = some (.cells (evC (bgE x) (.slice dA x.c.d.length dc) (.slice none 0 0) ++ evC (enE x) (.slice none 0 0) (.slice rA x.r.d.length rc)) 44 (0, 0))) (h64 : L.length ≤ 64) :
    ∃ A' c' W, (appendH #[34, 34] 34 #[hv, .slice (some ⟨nb, 0, none⟩) 2 cap]).run Try.prog Y = .ok (.slice A' (L.length + 2) c') W ∧
      OS w0 mo mc (.slice A' (L.length + 2) c') (L ++ [(bgE x, .slice dA x.c.d.length dc, .slice none 0 0), (enE x, .slice none 0 0, .slice rA x.r.d.length rc)]) (l ++ [x]) lo lc fo fc W := by
  have hY2 := h.go hY
  obtain ⟨i0, hi, hz0, hz1, hz2⟩ := info_parts infoEv
  have hM : ∀ p ∈ [((bgE x, .slice dA x.c.d.length dc, .slice none 0 0) : EvV), (enE x, .slice none 0 0, .slice rA x.r.d.length rc)], EvReads Y p := fun p hp => by
    simp only [List.mem_cons, List.mem_nil_iff, or_false] at hp
    rcases hp with rfl | rfl
    · exact ⟨hd, .inl ⟨rfl, rfl⟩⟩
    · exact ⟨.inl ⟨rfl, rfl⟩, hr⟩
  have hnews : ∀ j u, (cellsEv [((bgE x, .slice dA x.c.d.length dc, .slice none 0 0) : EvV), (enE x, .slice none 0 0, .slice rA x.r.d.length rc)])[j]? = some u → Y.cell? ((⟨nb, 0, none⟩ : Addr).add j) = some u := by
    have := World.news_of_block (t := 44) (fr := (0, 0)) hnb
    intro j u hu
    refine this j u ?_
    rw [Array.toList_append]
    simpa [cellsEv, evL] using hu
  obtain ⟨v', W, hrun, hown, hg, hat, hno⟩ := run_append_own_u8 (P := Try.prog) Y w0.heap.size 34 34 44 i0 _ 12 128 Try.underlying34 hi hz0 hz1 hz2 rfl (by decide) hv L.length (cellsEv L) hY2.own ⟨nb, 0, none⟩ 2 cap _ (cellsEv_len _) hnews (evs_one hM) (by unfold maxLen; omega) (by omega) hY2.bel.size (by omega) nou8_zeroEv (nou8_evs hM) hY2.no
  obtain ⟨A', c', rfl⟩ := own_slice hown
  have hB : Below w0.heap.size w0 W := hY2.bel.grown hg hY2.bel.size (fun k hk => (hY2.own.lt k hk).1)
  -- what else stands
  have hst : ∀ k, k < Y.heap.size → some k ≠ hv.ownBlock → W.heap[k]? = Y.heap[k]? := fun k hk hne => hg.block k hk hne
  have hrds : ∀ v b, ReadsB Y v b → ReadsB W v b := fun v b hrb => by
    cases hob : hv.ownBlock with
    | none => exact reads_far (ks := []) hrb (Chg.grown hg (fun k hk => by rw [hob] at hk; cases hk)) (fun k hk => by cases hk)
    | some g =>
      obtain ⟨cur, hcur⟩ := own_type hY2.own hob
      exact reads_far (ks := [g]) hrb (Chg.grown hg (fun k hk => by rw [hob] at hk; cases hk; exact List.mem_singleton.2 rfl)) (fun k hk => by
        rw [List.mem_singleton] at hk; subst hk
        exact row_no8 hcur (hY2.no k cur hob hcur))
  have hmp : ∀ k n f, MapIs Try.prog 9 k n f Y → MapIs Try.prog 9 k n f W := fun k n f hm => by
    refine hm.same (hst k hm.lt fun e => ?_)
    obtain ⟨cur, hcur⟩ := own_type hY2.own e.symm
    obtain ⟨es, cl, hes, _⟩ := hm
    rw [hes] at hcur; cases hcur
  refine ⟨A', c', W, hrun, hB, ?_, ?_, hno, fun p hp => ?_, ?_, ?_, h.bo, h.bc, h.ne, fun s => ?_, h.cnt⟩
  · rw [List.map_append, h.ev, evsOf_append]; rfl
  · rw [List.length_append, cellsEv_append]; exact hown
  · rcases List.mem_append.1 hp with hp | hp
    · exact ⟨hrds _ _ (hY2.rd p hp).1, hrds _ _ (hY2.rd p hp).2⟩
    · exact ⟨hrds _ _ (hM p hp).1, hrds _ _ (hM p hp).2⟩
  · obtain ⟨n, hn⟩ := hY2.mO
    exact ⟨n, hmp _ _ _ hn⟩
  · obtain ⟨n, hn⟩ := hY2.mC
    exact ⟨n, hmp _ _ _ hn⟩
  · obtain ⟨A, m, c, e1, e2⟩ := hY2.obj s
    exact ⟨A, m, c, e1, hrds _ _ e2⟩
end
theorem OS.made (w : World) : OS w (w.heap.size + 1) (w.heap.size + 2) (.slice (some ⟨w.heap.size, 0, none⟩) 0 0) [] [] [] [] noKeys noKeys (((w.alloc (.cells #[] 44)).alloc (.map #[] 0)).alloc (.map #[] 0)) := by
  have b0 : Below w.heap.size w (w.alloc (.cells #[] 44)) := (Below.refl _ _).alloc (Nat.le_refl _) _
  have s1 : (w.alloc (.cells #[] 44)).heap.size = w.heap.size + 1 := by simp
  have b1 : Below (w.alloc (.cells #[] 44)).heap.size (w.alloc (.cells #[] 44)) ((w.alloc (.cells #[] 44)).alloc (.map #[] 0)) := (Below.refl _ _).alloc (Nat.le_refl _) _
  have s2 : ((w.alloc (.cells #[] 44)).alloc (.map #[] 0)).heap.size = w.heap.size + 2 := by simp
  have b2 : Below ((w.alloc (.cells #[] 44)).alloc (.map #[] 0)).heap.size ((w.alloc (.cells #[] 44)).alloc (.map #[] 0)) (((w.alloc (.cells #[] 44)).alloc (.map #[] 0)).alloc (.map #[] 0)) := (Below.refl _ _).alloc (Nat.le_refl _) _
  have b12 := b1.trans (b2.mono (by simp))
  have hblk : (((w.alloc (.cells #[] 44)).alloc (.map #[] 0)).alloc (.map #[] 0)).heap[w.heap.size]? = some (.cells #[] 44 (0, 0)) := (b12.block _ (by simp)).trans (heap_alloc_new w _)
  have m1 := MapIs.made (P := Try.prog) (k := 9) (w.alloc (.cells #[] 44))
  have m2 := MapIs.made (P := Try.prog) (k := 9) ((w.alloc (.cells #[] 44)).alloc (.map #[] 0))
  rw [s1] at m1
  rw [s2] at m2
  refine ⟨b0.trans (b12.mono b0.size), rfl, own_below (made_evs w) b12, fun g cur hg hc => ?_, fun p hp => (by cases hp), ⟨0, m1.same (b2.block _ m1.lt)⟩, ⟨0, m2⟩, (by omega), (by omega), (by omega), fun s => ⟨none, 0, 0, rfl, .inl ⟨rfl, rfl⟩⟩, fun s => rfl⟩
  cases hg
  rw [hblk] at hc
  cases hc
  intro i y h
  simp at h
end Go.Proofs.Ytbbbdhpihcbmmaa
namespace Go.Proofs.Ytbbbdhpihcbmmaa
open Go.RowKit Own

def turnEv (e : EvIn) (cd : Int) : EvIn := ⟨e.kc, e.ks, e.done, e.unk, e.call, ⟨cd, e.rep.size, e.rep.d⟩⟩
/-- the cell of an event's reply's code is another now -/
theorem evs_code {W : World} {B g n cap j : Nat} {L : List EvV} (h : W.ownsRow B 44 12 (.slice (some ⟨g, 0, none⟩) n cap) L.length (cellsEv L)) (hn : n = L.length) (hno : RowNo W (.slice (some ⟨g, 0, none⟩) n cap)) (hr : ∀ p ∈ L, EvReads W p) (hj : j < L.length) (cd : Int) :
    ReadsEvs (W.setCell ⟨g, j * 12 + 9, none⟩ (.int .i64 cd)) (.slice (some ⟨g, 0, none⟩) n cap) ((L.map Prod.fst).set j (turnEv (L[j]'hj).1 cd)) := by
  subst hn
  obtain ⟨cur, hcur⟩ := own_type h (g := g) rfl
  have hu : NoU8 cur := hno g cur rfl hcur
  have hcell : ∀ k q u, k < L.length → q < 12 → (cellsEv L)[k * 12 + q]? = some u → W.cell? ⟨g, k * 12 + q, none⟩ = some u := fun k q u _ _ hu => by
    have := h.cells (g := g) rfl (k * 12 + q) u hu
    rwa [Addr.add_lit, Nat.zero_add] at this
  have hrd : ∀ v b, ReadsB W v b → ReadsB (W.setCell ⟨g, j * 12 + 9, none⟩ (.int .i64 cd)) v b := fun v b hb => reads_box hcur hu hb _ _
  refine .inr ⟨g, 0, cap, by simp, fun k hk => ?_⟩
  have hk' : k < L.length := by simpa using hk
  rw [Nat.zero_add, List.getElem_set]
  by_cases e : j = k
  · subst e
    rw [if_pos rfl]
    refine ⟨(L[j]'hj).2.1, (L[j]'hj).2.2, fun q u hq => ?_, hrd _ _ (hr _ (List.getElem_mem hj)).1, hrd _ _ (hr _ (List.getElem_mem hj)).2⟩
    have hq12 : q < 12 := by have := (Array.getElem?_eq_some_iff.1 hq).1; simpa [evC] using this
    by_cases e9 : q = 9
    · subst e9
      have hx : u = .int .i64 cd := by
        have : (evC (turnEv (L[j]'hj).1 cd) (L[j]'hj).2.1 (L[j]'hj).2.2)[9]? = some (.int .i64 cd) := rfl
        rw [this] at hq; cases hq; rfl
      subst hx
      have hlen := evL_len (L[j]'hj)
      exact World.cell?_setCell_same _ _ _ (hcell j 9 ((evL (L[j]'hj))[9]'(by omega)) hj (by omega) (by rw [cellsEv_at L j hj 9 (by omega)]; exact List.getElem?_eq_getElem _))
    · have hsame : (evC (turnEv (L[j]'hj).1 cd) (L[j]'hj).2.1 (L[j]'hj).2.2)[q]? = (evL (L[j]'hj))[q]? := by
        have hcs : q = 0 ∨ q = 1 ∨ q = 2 ∨ q = 3 ∨ q = 4 ∨ q = 5 ∨ q = 6 ∨ q = 7 ∨ q = 8 ∨ q = 10 ∨ q = 11 := by omega
        rcases hcs with rfl | rfl | rfl | rfl | rfl | rfl | rfl | rfl | rfl | rfl | rfl <;> rfl
      rw [hsame] at hq
      rw [World.cell?_setCell_other _ _ _ _ (by rw [ne_eq, Addr.mk.injEq]; omega)]
      exact hcell j q u hj hq12 (by rw [cellsEv_at L j hj q hq12]; exact hq)
  · rw [if_neg e]
    simp only [List.getElem_map]
    refine ⟨(L[k]'hk').2.1, (L[k]'hk').2.2, fun q u hq => ?_, hrd _ _ (hr _ (List.getElem_mem hk')).1, hrd _ _ (hr _ (List.getElem_mem hk')).2⟩
    have hq12 : q < 12 := by have := (Array.getElem?_eq_some_iff.1 hq).1; simpa [evC] using this
    rw [World.cell?_setCell_other _ _ _ _ (by rw [ne_eq, Addr.mk.injEq]; omega)]
    exact hcell k q u hk' hq12 (by rw [cellsEv_at L k hk' q hq12]; unfold evL; rw [Array.getElem?_toList]; exact hq)
section
variable {w0 w : World} {mo mc n c : Nat} {A : Option Addr} {L : List EvV} {l lo lc : List OE} {fo fc : Value → Option Value}
theorem OS.reads (h : OS w0 mo mc (.slice A n c) L l lo lc fo fc w) (hn : n = L.length) : ReadsEvs w (.slice A n c) (evsOf l) := by
  have := evs_own' (W := w) (n := n) (c := c) (A := A) (L := L) (by rw [hn]; rw [hn] at h; exact h.own) hn.symm h.rd
  rw [h.ev] at this
  exact this
/-- the reply of call i is told anew -/
theorem OS.turn (h : OS w0 mo mc (.slice A n c) L l lo lc fo fc w) (hn : n = L.length) {i : Nat} (hi : i < l.length) : ∃ g, A = some ⟨g, 0, none⟩ ∧ w0.heap.size ≤ g ∧ w.cell? ⟨g, (2 * i + 1) * 12 + 9, none⟩ = some (.int .i64 (l[i]'hi).r.code) ∧ (∀ o, w.frozen? ⟨g, o, none⟩ = false) ∧
    ReadsEvs (w.setCell ⟨g, (2 * i + 1) * 12 + 9, none⟩ (.int .i64 ((l[i]'hi).r.code + 1))) (.slice A n c) (evsOf (l.set i (turnE (l[i]'hi)))) ∧ Below w0.heap.size w0 (w.setCell ⟨g, (2 * i + 1) * 12 + 9, none⟩ (.int .i64 ((l[i]'hi).r.code + 1))) := by
  have hlen : L.length = 2 * l.length := by
    have := congrArg List.length h.ev
    rwa [List.length_map, evsOf_len] at this
  have hj : 2 * i + 1 < L.length := by omega
  rcases h.own.2 with ⟨hv, h0⟩ | ⟨g, cap, cur, hv, hg, hcur, _⟩
  · omega
  · rw [Value.slice.injEq] at hv
    obtain ⟨rfl, _, rfl⟩ := hv
    have hev : (L[2 * i + 1]'hj).1 = enE (l[i]'hi) := by
      have h1 := evsOf_en l i hi
      rw [← h.ev, List.getElem?_map, List.getElem?_eq_getElem hj, Option.map_some, Option.some.injEq] at h1
      exact h1
    have hc := evs_code h.own hn h.no h.rd hj ((l[i]'hi).r.code + 1)
    rw [h.ev, hev, show turnEv (enE (l[i]'hi)) ((l[i]'hi).r.code + 1) = enE (turnE (l[i]'hi)) from rfl, evsOf_turn] at hc
    refine ⟨g, rfl, hg, ?_, fun o => frozen_of_block hcur o, hc, h.bel.setCell hg _⟩
    have h9 : (cellsEv L)[(2 * i + 1) * 12 + 9]? = some (.int .i64 (l[i]'hi).r.code) := by
      rw [cellsEv_at L (2 * i + 1) hj 9 (by omega)]
      show (evC (L[2 * i + 1]'hj).1 _ _).toList[9]? = _
      rw [hev]; rfl
    have := h.own.cells (g := g) rfl _ _ h9
    rwa [Addr.add_lit, Nat.zero_add] at this
end
end Go.Proofs.Ytbbbdhpihcbmmaa
