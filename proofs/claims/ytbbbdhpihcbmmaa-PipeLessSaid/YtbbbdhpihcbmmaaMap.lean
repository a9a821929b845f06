/- What a call turns; a map as a function of its keys. No program in sight (but for its name). -/
import Derived.Test.YtbbbdhpihcbmmaaOwn
import Derived.Maps.Own
import Derived.DeepKeys4
namespace Go.Proofs.Ytbbbdhpihcbmmaa
open Go.RowKit Own
open Go.MapKept (Stamped stamped_push stamped_modify stamped_empty stamped_iff)
open Go.Maps (Keyed)

/-- Nothing has turned but (it may be) these blocks; new ones may be there. -/
structure Chg (ks : List Nat) (w w' : World) : Prop where
  os : w'.os = w.os
  tape : w'.tape = w.tape
  output : w'.output = w.output
  size : w.heap.size ≤ w'.heap.size
  block : ∀ k, k < w.heap.size → k ∉ ks → w'.heap[k]? = w.heap[k]?

theorem Chg.refl (ks : List Nat) (w : World) : Chg ks w w := ⟨rfl, rfl, rfl, Nat.le_refl _, fun _ _ _ => rfl⟩
theorem Chg.trans {ks ks' : List Nat} {a b c : World} (h : Chg ks a b) (k : Chg ks' b c) (hk : ∀ x ∈ ks', x < a.heap.size → x ∈ ks) : Chg ks a c :=
  ⟨k.os.trans h.os, k.tape.trans h.tape, k.output.trans h.output, Nat.le_trans h.size k.size, fun i hi hn => (k.block i (Nat.lt_of_lt_of_le hi h.size) (fun hx => hn (hk i hx hi))).trans (h.block i hi hn)⟩
theorem Chg.below {B : Nat} {ks : List Nat} {w w' : World} (h : Chg ks w w') (hB : B ≤ w.heap.size) (hk : ∀ k ∈ ks, B ≤ k) : Below B w w' :=
  ⟨h.os, h.tape, h.output, h.size, fun k hlt => h.block k (Nat.lt_of_lt_of_le hlt hB) (fun hx => by have := hk k hx; omega)⟩
theorem Chg.of_below {ks : List Nat} {w w' : World} (h : Below w.heap.size w w') : Chg ks w w' := ⟨h.os, h.tape, h.output, h.size, fun k hk _ => h.block k hk⟩
theorem Chg.grown {ks : List Nat} {w w' : World} {row : Option Nat} (h : w.grownBy w' row) (hk : ∀ k, row = some k → k ∈ ks) : Chg ks w w' :=
  ⟨h.os, h.tape, h.output, h.size, fun k hlt hn => h.block k hlt (fun e => hn (hk k e.symm))⟩
theorem Chg.setCell {ks : List Nat} {w : World} {a : Addr} (u : Value) (ha : a.block ∈ ks) : Chg ks w (w.setCell a u) :=
  ⟨rfl, rfl, rfl, by simp [World.setCell], fun k _ hn => Below.heap_setCell _ _ _ _ (fun e => hn (e ▸ ha))⟩
theorem Chg.drew {ks : List Nat} {w w' : World} (h : Chg ks w w') : Chg ks w w'.drew := ⟨h.os, h.tape, h.output, h.size, h.block⟩


/-- Block b is a map of at most n entries; f tells what stands at a key. -/
def MapIs (P : Program) (k : TypeId) (b n : Nat) (f : Value → Option Value) (w : World) : Prop :=
  ∃ es clock, w.heap[b]? = some (.map es clock) ∧ Stamped es clock ∧ es.size ≤ n ∧ (∀ x ∈ es.toList, ∃ l, keyOf P k x.key = some l) ∧ ∀ key v, f key = some v ↔ ∃ x ∈ es.toList, x.key = key ∧ x.val = v
def noKeys : Value → Option Value := fun _ => none
open Classical in
noncomputable def putKey (f : Value → Option Value) (key val : Value) : Value → Option Value := fun x => if x = key then some val else f x
theorem putKey_same (f : Value → Option Value) (key val : Value) : putKey f key val key = some val := by simp [putKey]
theorem putKey_other (f : Value → Option Value) {key x : Value} (val : Value) (h : x ≠ key) : putKey f key val x = f x := by simp [putKey, h]

section
variable {P : Program} {k : TypeId} {b n : Nat} {f : Value → Option Value} {w w' : World}
theorem MapIs.mono (h : MapIs P k b n f w) {m : Nat} (hm : n ≤ m) : MapIs P k b m f w := by
  obtain ⟨es, clock, h1, h2, h3, h4⟩ := h
  exact ⟨es, clock, h1, h2, Nat.le_trans h3 hm, h4⟩
theorem MapIs.lt (h : MapIs P k b n f w) : b < w.heap.size := by
  obtain ⟨es, clock, h1, _⟩ := h
  exact (Array.getElem?_eq_some_iff.1 h1).1
theorem MapIs.same (h : MapIs P k b n f w) (hs : w'.heap[b]? = w.heap[b]?) : MapIs P k b n f w' := by
  obtain ⟨es, clock, h1, h2⟩ := h
  exact ⟨es, clock, hs.trans h1, h2⟩
theorem MapIs.chg (h : MapIs P k b n f w) {ks : List Nat} (hc : Chg ks w w') (hn : b ∉ ks) : MapIs P k b n f w' := h.same (hc.block b h.lt hn)
theorem MapIs.made (w : World) : MapIs P k w.heap.size 0 noKeys (w.alloc (.map #[] 0)) :=
  ⟨#[], 0, heap_alloc_new w _, stamped_empty 0, Nat.le_refl _, by simp, by simp [noKeys]⟩
theorem MapIs.look {t e : TypeId} (h : MapIs P k b n f w) (K : Keyed P k) (ht : P.underlying t = some (.map k e)) {z : Value} (hz : (zeroValue e).run P w = .ok z w) {key : Value} {kl : Lit} (hkey : keyOf P k key = some kl) :
    (Instr.lookup t (.map (some b)) key false).run P w = .ok ((f key).getD z) w := by
  obtain ⟨es, clock, hb, hs, hn, hk, hf⟩ := h
  rcases K.find w hkey es.toList hk with ⟨h1, h2⟩ | ⟨j, e0, h1, h2, h3⟩
  · have hnone : f key = none := by
      cases hv : f key with
      | none => rfl
      | some v =>
        obtain ⟨x, hx, hxk, _⟩ := (hf key v).1 hv
        exact absurd hxk (h2 x hx)
    rw [hnone]
    simp [Instr.lookup, run_underlying ht, MapKept.run_getObj_map hb, K.check w _ hkey, h1, hz, Result.andThen]
  · have hsome : f key = some e0.val := (hf key e0.val).2 ⟨e0, List.mem_of_getElem? h2, h3, rfl⟩
    rw [hsome]
    simp [Instr.lookup, run_underlying ht, MapKept.run_getObj_map hb, K.check w _ hkey, h1, Result.andThen]
theorem chg_setBlock (b : Nat) (o : Obj) (w : World) : Chg [b] w (ChangeMaps.setBlock w b o) :=
  ⟨rfl, rfl, rfl, by simp [ChangeMaps.setBlock], fun k _ hk => by
    simp only [ChangeMaps.setBlock]
    rw [Array.getElem?_setIfInBounds]
    simp at hk
    rw [if_neg (fun e => hk e.symm)]⟩
theorem MapIs.store {t e : TypeId} (h : MapIs P k b n f w) (K : Keyed P k) (ht : P.underlying t = some (.map k e)) {key val : Value} {kl : Lit} (hkey : keyOf P k key = some kl) :
    ∃ w', (Instr.mapUpdate t (.map (some b)) key val).run P w = .ok () w' ∧ MapIs P k b (n + 1) (putKey f key val) w' ∧ Chg [b] w w' := by
  obtain ⟨es, clock, hb, hs, hn, hk, hf⟩ := h
  rcases K.find w hkey es.toList hk with ⟨h1, h2⟩ | ⟨j, e0, h1, h2, h3⟩
  · refine ⟨ChangeMaps.setBlock w b (.map (es.push ⟨key, val, clock⟩) (clock + 1)), ?_, ⟨_, _, ChangeMaps.heap_setBlock_same hb _, stamped_push hs h2, by simp; omega, ?_, ?_⟩, chg_setBlock _ _ _⟩
    · simp [Instr.mapUpdate, run_underlying ht, MapKept.run_getObj_map hb, K.check w false hkey, h1, MapKept.run_setObj_map _ hb, Result.andThen, ChangeMaps.setBlock]
    · intro x hx
      simp only [Array.toList_push, List.mem_append, List.mem_singleton] at hx
      rcases hx with hx | rfl
      · exact hk x hx
      · exact ⟨kl, hkey⟩
    · intro x v
      simp only [Array.toList_push, List.mem_append, List.mem_singleton]
      by_cases hx : x = key
      · subst hx
        rw [putKey_same]
        constructor
        · intro h; cases h; exact ⟨_, .inr rfl, rfl, rfl⟩
        · rintro ⟨y, hy | rfl, hyk, hyv⟩
          · exact absurd hyk (h2 y hy)
          · exact congrArg some hyv
      · rw [putKey_other _ _ hx, hf]
        constructor
        · rintro ⟨y, hy, r⟩; exact ⟨y, .inl hy, r⟩
        · rintro ⟨y, hy | rfl, hyk, hyv⟩
          · exact ⟨y, hy, hyk, hyv⟩
          · exact absurd hyk.symm hx
  · obtain ⟨hj, hje⟩ := List.getElem?_eq_some_iff.1 h2
    have hj' : j < es.size := by simpa using hj
    have hes : es[j]? = some e0 := by rw [← Array.getElem?_toList]; exact h2
    refine ⟨ChangeMaps.setBlock w b (.map (es.modify j fun e => { e with key, val }) clock), ?_, ⟨_, _, ChangeMaps.heap_setBlock_same hb _, stamped_modify hs j _ (fun _ _ => rfl) (fun e _ he => ?_), by simp; omega, ?_, ?_⟩, chg_setBlock _ _ _⟩
    · have hst := K.stays w hkey
      simp [Instr.mapUpdate, run_underlying ht, MapKept.run_getObj_map hb, K.check w false hkey, h1, hes, h3, hst, MapKept.run_setObj_map _ hb, Result.andThen, ChangeMaps.setBlock]
    · rw [hes] at he; cases he; exact h3.symm
    · intro x hx
      rcases MapFrom.mem_modify hx with hx | ⟨e, he, rfl⟩
      · exact hk x hx
      · exact ⟨kl, hkey⟩
    · have hpw := ((stamped_iff es clock).1 hs).2.2
      have hne : ∀ i e, es[i]? = some e → e.key = key → i = j := by
        intro i e hi hk'
        obtain ⟨hi1, hi2⟩ := List.getElem?_eq_some_iff.1 (show es.toList[i]? = some e by rw [Array.getElem?_toList]; exact hi)
        rcases Nat.lt_trichotomy i j with h | h | h
        · exact absurd ((congrArg MapEntry.key hi2).trans (hk'.trans (h3.symm.trans (congrArg MapEntry.key hje.symm)))) (List.pairwise_iff_getElem.1 hpw i j hi1 hj h)
        · exact h
        · exact absurd ((congrArg MapEntry.key hje).trans (h3.trans (hk'.symm.trans (congrArg MapEntry.key hi2.symm)))) (List.pairwise_iff_getElem.1 hpw j i hj hi1 h)
      intro x v
      by_cases hx : x = key
      · subst hx
        rw [putKey_same]
        constructor
        · intro h; cases h
          refine ⟨{ e0 with key := x, val := val }, ?_, rfl, rfl⟩
          refine List.mem_of_getElem? (i := j) ?_
          rw [Array.getElem?_toList, Array.getElem?_modify, if_pos rfl, hes]; rfl
        · rintro ⟨y, hy, hyk, hyv⟩
          obtain ⟨i, hi⟩ := List.mem_iff_getElem?.1 hy
          rw [Array.getElem?_toList, Array.getElem?_modify] at hi
          by_cases hij : j = i
          · rw [if_pos hij, ← hij, hes] at hi
            cases hi
            exact congrArg some hyv
          · rw [if_neg hij] at hi
            exact absurd (hne i y hi hyk).symm hij
      · rw [putKey_other _ _ hx, hf]
        constructor
        · rintro ⟨y, hy, hyk, hyv⟩
          obtain ⟨i, hi⟩ := List.mem_iff_getElem?.1 hy
          rw [Array.getElem?_toList] at hi
          have hij : ¬ j = i := by
            rintro rfl
            rw [hes] at hi; cases hi
            exact hx (hyk.symm.trans h3)
          refine ⟨y, List.mem_of_getElem? (i := i) ?_, hyk, hyv⟩
          rw [Array.getElem?_toList, Array.getElem?_modify, if_neg hij]; exact hi
        · rintro ⟨y, hy, hyk, hyv⟩
          obtain ⟨i, hi⟩ := List.mem_iff_getElem?.1 hy
          rw [Array.getElem?_toList, Array.getElem?_modify] at hi
          by_cases hij : j = i
          · rw [if_pos hij, ← hij, hes] at hi
            cases hi
            exact absurd hyk.symm hx
          · rw [if_neg hij] at hi
            exact ⟨y, List.mem_of_getElem? (i := i) (by rw [Array.getElem?_toList]; exact hi), hyk, hyv⟩
theorem run_clear_map {t e ty : TypeId} (h : MapIs P k b n f w) (ht : P.underlying t = some (.map k e)) :
    ∃ w', (Builtin.clear_ #[t] ty #[.map (some b)]).run P w = .ok (.tuple #[]) w' ∧ MapIs P k b 0 noKeys w' ∧ Chg [b] w w' := by
  obtain ⟨es, clock, hb, hs, hn, hk, hf⟩ := h
  refine ⟨ChangeMaps.setBlock w b (.map #[] clock), ?_, ⟨#[], clock, ChangeMaps.heap_setBlock_same hb _, stamped_empty _, Nat.le_refl _, by simp, by simp [noKeys]⟩, chg_setBlock _ _ _⟩
  simp [Builtin.clear_, run_underlying ht, MapKept.run_getObj_map hb, MapKept.run_setObj_map _ hb, Result.andThen, ChangeMaps.setBlock]
end
end Go.Proofs.Ytbbbdhpihcbmmaa
