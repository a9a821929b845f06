/- Ballot's Chosen: the counts, in a map. -/
import Derived.Test.YtaopfgoofhojeaaChos0
import Derived.Test.YtaopfgoofhojeaaRange
namespace Go.Proofs.Ytaopfgoofhojeaa
open Go.RowKit Own
open Go.Maps (Keyed)

/-- how many accepted a ballot -/
def cntA (xs : List Acc) (b : Bal) : Nat := (xs.filter (fun x => decide (x.a = b))).length
theorem cntA_le (xs : List Acc) (b : Bal) : cntA xs b ≤ xs.length := List.length_filter_le ..
theorem cntA_snoc (xs : List Acc) (x : Acc) (b : Bal) : cntA (xs ++ [x]) b = cntA xs b + if x.a = b then 1 else 0 := by
  unfold cntA
  rw [List.filter_append, List.length_append]
  by_cases h : x.a = b
  · simp [h]
  · simp [h]
theorem cntA_pos {xs : List Acc} {b : Bal} (h : 0 < cntA xs b) : ∃ x ∈ xs, x.a = b := by
  unfold cntA at h
  obtain ⟨x, hx⟩ := List.exists_mem_of_length_pos h
  have := List.mem_filter.1 hx
  exact ⟨x, this.1, by simpa using this.2⟩
/-- a map that counts the ballots accepted -/
def CntB (f : Value → Option Value) (xs : List Acc) : Prop := ∀ key v, f key = some v ↔ ∃ b : Bal, key = b.v ∧ 0 < cntA xs b ∧ v = .int .i64 (cntA xs b : Nat)
theorem CntB.nil : CntB noKeys [] := fun key v => by
  constructor
  · intro h; cases h
  · rintro ⟨b, _, h, _⟩; exact absurd h (by simp [cntA])
theorem CntB.get {f : Value → Option Value} {xs : List Acc} (h : CntB f xs) (b : Bal) : (f b.v).getD (.int .i64 0) = .int .i64 (cntA xs b : Nat) := by
  cases hv : f b.v with
  | some v =>
    obtain ⟨c, hc, _, rfl⟩ := (h b.v v).1 hv
    rw [balV_inj hc]; rfl
  | none =>
    have : cntA xs b = 0 := by
      rcases Nat.eq_zero_or_pos (cntA xs b) with h0 | h0
      · exact h0
      · have := (h b.v _).2 ⟨b, rfl, h0, rfl⟩
        rw [hv] at this; cases this
    rw [this]; rfl
theorem CntB.add {f : Value → Option Value} {xs : List Acc} (h : CntB f xs) (x : Acc) : CntB (putKey f x.a.v (.int .i64 ((cntA xs x.a : Nat) + 1 : Int))) (xs ++ [x]) := fun key v => by
  by_cases hk : key = x.a.v
  · subst hk
    rw [putKey_same]
    constructor
    · intro e
      cases e
      refine ⟨x.a, rfl, by rw [cntA_snoc, if_pos rfl]; omega, ?_⟩
      rw [cntA_snoc, if_pos rfl]; rfl
    · rintro ⟨b, hb, _, rfl⟩
      rw [← balV_inj hb, cntA_snoc, if_pos rfl]; rfl
  · rw [putKey_other _ _ hk, h key v]
    constructor
    · rintro ⟨b, rfl, h1, rfl⟩
      have hne : ¬ x.a = b := fun e => hk (by rw [e])
      exact ⟨b, rfl, by rw [cntA_snoc, if_neg hne]; exact h1, by rw [cntA_snoc, if_neg hne]; rfl⟩
    · rintro ⟨b, rfl, h1, rfl⟩
      have hne : ¬ x.a = b := fun e => hk (by rw [e])
      rw [cntA_snoc, if_neg hne] at h1
      exact ⟨b, rfl, h1, by rw [cntA_snoc, if_neg hne]; rfl⟩

/-- what Chosen keeps: its answer's box, the map -/
structure CM (w0 : World) (rb mb n : Nat) (xs : List Acc) (w : World) : Prop where
  map : ∃ f, MapIs Try.prog 23 mb n f w ∧ CntB f xs
  box : w.heap[rb]? = some (.cells #[.int .i64 0, .int .i64 0] 23 (0, 0))
  gm : w0.heap.size ≤ mb
  gr : w0.heap.size ≤ rb
  below : Below w0.heap.size w0 w
theorem CM.ne {w0 w : World} {rb mb n : Nat} {xs : List Acc} (h : CM w0 rb mb n xs w) : rb ≠ mb := by
  obtain ⟨f, ⟨es, clock, hm, _⟩, _⟩ := h.map
  rintro rfl
  rw [h.box] at hm; cases hm
theorem CM.go {w0 w w' : World} {rb mb n : Nat} {xs : List Acc} (h : CM w0 rb mb n xs w) (hb : Below w.heap.size w w') : CM w0 rb mb n xs w' := by
  obtain ⟨f, h1, h2⟩ := h.map
  exact ⟨⟨f, h1.same (hb.block _ h1.lt), h2⟩, (hb.block _ (Array.getElem?_eq_some_iff.1 h.box).1).trans h.box, h.gm, h.gr, h.below.trans (hb.mono h.below.size)⟩
/-- what one more count does, from a world on -/
def Steps (mb : Nat) (K : Value) (c : Nat) (W : World) (stamp : Value) (w3 w4 : World) : Prop :=
  ((Instr.lookup 55 (.map (some mb)) K false).run Try.prog W = .ok (.int .i64 c) W) ∧
  ((Instr.lookup 55 (.map (some mb)) K false).run Try.prog W.drew = .ok (.int .i64 c) W.drew) ∧
  ((Instr.mapEntry 55 (.map (some mb)) K).run Try.prog W.drew = .ok (.tuple #[.int .i64 c, stamp]) w3) ∧
  ((Instr.lookup 55 (.map (some mb)) K false).run Try.prog w3 = .ok (.int .i64 c) w3) ∧
  ((Instr.entryStore 55 (.map (some mb)) stamp (.int .i64 ((c : Int) + 1))).run Try.prog w3 = .ok () w4)
theorem CM.steps {w0 w : World} {rb mb n : Nat} {xs : List Acc} (h : CM w0 rb mb n xs w) (x : Acc) (hr : (Lit.int .i64 x.a.r).wf = true) (hm : (Lit.int .i64 x.a.m).wf = true) :
    ∃ stamp w3 w4, Steps mb x.a.v (cntA xs x.a) w stamp w3 w4 ∧ CM w0 rb mb (n + 1) (xs ++ [x]) w4 := by
  obtain ⟨f, h1, h2⟩ := h.map
  obtain ⟨kl, hk⟩ := keyBal hr hm
  have hd : MapIs Try.prog 23 mb n f w.drew := h1.same rfl
  obtain ⟨stamp, w3, w4, e1, e2, e3, e4, e5, e6⟩ := hd.entry keyedBal Try.underlying55 zero_int hk (.int .i64 ((cntA xs x.a : Nat) + 1 : Int))
  have hg := h2.get x.a
  unfold Bal.v at hg
  rw [hg] at e1 e2
  have hc6 : Chg [mb] w w4 := ⟨e6.os, e6.tape, e6.output, e6.size, e6.block⟩
  refine ⟨stamp, w3, w4, ⟨?_, ?_, e1, ?_, e3⟩, ⟨_, e4, h2.add x⟩, ?_, h.gm, h.gr, h.below.trans (hc6.below h.below.size (by simpa using h.gm))⟩
  · show _ = _
    unfold Bal.v
    rw [h1.look keyedBal Try.underlying55 (zero_int w) hk, hg]
  · show _ = _
    unfold Bal.v
    rw [hd.look keyedBal Try.underlying55 (zero_int w.drew) hk, hg]
  · show _ = _
    unfold Bal.v
    rw [e2.look keyedBal Try.underlying55 (zero_int w3) hk, putKey_same]; rfl
  · exact (hc6.block _ (Array.getElem?_eq_some_iff.1 h.box).1 (by simpa using h.ne)).trans h.box
theorem CM.start (w : World) : CM w w.heap.size (w.heap.size + 1) 0 [] ((w.alloc (.cells #[.int .i64 0, .int .i64 0] 23)).alloc (.map #[] 0)) := by
  have hz : (w.alloc (.cells #[.int .i64 0, .int .i64 0] 23)).heap.size = w.heap.size + 1 := Array.size_push _
  have hm := MapIs.made (P := Try.prog) (k := 23) (w.alloc (.cells #[.int .i64 0, .int .i64 0] 23))
  rw [hz] at hm
  refine ⟨⟨_, hm, CntB.nil⟩, ?_, by omega, Nat.le_refl _, ((Below.refl _ _).alloc (Nat.le_refl _) _).alloc (by rw [hz]; omega) _⟩
  exact (((Below.refl _ _).alloc (Nat.le_refl _) _).block _ (by rw [hz]; omega)).trans (heap_alloc_new w _)

/-- what counts: more than half accepted it, and it is no zero -/
def Maj (xs : List Acc) (b : Bal) : Prop := xs.length < 2 * cntA xs b ∧ lessB ⟨0, 0⟩ b = true
/-- the best ballot so far -/
def BestB (xs : List Acc) (b : Bal) : Prop := b = ⟨0, 0⟩ ∨ (∃ x ∈ xs, x.a = b) ∧ Maj xs b
def ChosenPost (xs : List Acc) (w : World) (e : Ending) (w' : World) : Prop :=
  ∃ (b : Bal) (A : Option Addr) (n c : Nat) (ok : Bool), e = .returned (.tuple #[.agg #[.int .i64 b.r, .int .i64 b.m], .slice A n c, .bool ok]) ∧ Below w.heap.size w w' ∧
    (ok = true → Maj xs b ∧ ∃ x ∈ xs, x.a = b ∧ n = x.l.length ∧ w'.ownsRow w.heap.size 5 1 (.slice A n c) n (u8s x.l))
end Go.Proofs.Ytaopfgoofhojeaa
