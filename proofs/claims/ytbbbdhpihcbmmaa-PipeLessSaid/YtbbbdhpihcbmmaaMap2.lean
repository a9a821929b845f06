/- A map's entry that is laid and then stored ('m[k] op= v'). -/
import Derived.Test.YtbbbdhpihcbmmaaMap
namespace Go.Proofs.Ytbbbdhpihcbmmaa
open Go.RowKit Own
open Go.MapKept (Stamped stamped_push stamped_modify stamped_empty stamped_iff)
open Go.Maps (Keyed)
section
variable {P : Program} {k : TypeId} {b n : Nat} {f : Value → Option Value} {w w' : World}
/-- the same of entries -/
def EntIs (P : Program) (k : TypeId) (n : Nat) (f : Value → Option Value) (es : Array MapEntry) (clock : Nat) : Prop :=
  Stamped es clock ∧ es.size ≤ n ∧ (∀ x ∈ es.toList, ∃ l, keyOf P k x.key = some l) ∧ ∀ key v, f key = some v ↔ ∃ x ∈ es.toList, x.key = key ∧ x.val = v
theorem EntIs.push {es : Array MapEntry} {clock : Nat} (h : EntIs P k n f es clock) {key val : Value} {kl : Lit} (hkey : keyOf P k key = some kl) (h2 : ∀ e ∈ es.toList, e.key ≠ key) : EntIs P k (n + 1) (putKey f key val) (es.push ⟨key, val, clock⟩) (clock + 1) := by
  obtain ⟨hs, hn, hk, hf⟩ := h
  refine ⟨stamped_push hs h2, by simp; omega, ?_, ?_⟩
  · intro x hx
    simp only [Array.toList_push, List.mem_append, List.mem_singleton] at hx
    rcases hx with hx | rfl
    · exact hk x hx
    · exact ⟨kl, hkey⟩
  · intro x v
    simp only [Array.toList_push, List.mem_append, List.mem_singleton]
    by_cases hx : x = key
    · subst hx
      rw [putKey_same]
      constructor
      · intro h; cases h; exact ⟨_, .inr rfl, rfl, rfl⟩
      · rintro ⟨y, hy | rfl, hyk, hyv⟩
        · exact absurd hyk (h2 y hy)
        · exact congrArg some hyv
    · rw [putKey_other _ _ hx, hf]
      constructor
      · rintro ⟨y, hy, r⟩; exact ⟨y, .inl hy, r⟩
      · rintro ⟨y, hy | rfl, hyk, hyv⟩
        · exact ⟨y, hy, hyk, hyv⟩
        · exact absurd hyk.symm hx
theorem EntIs.modify {es : Array MapEntry} {clock j : Nat} (h : EntIs P k n f es clock) {key val : Value} {kl : Lit} {e0 : MapEntry} (hkey : keyOf P k key = some kl) (hes : es[j]? = some e0) (h3 : e0.key = key) (F : MapEntry → MapEntry)
    (hF : F e0 = { e0 with key := key, val := val }) (hB : ∀ e, (F e).born = e.born) : EntIs P k n (putKey f key val) (es.modify j F) clock := by
  obtain ⟨hs, hn, hk, hf⟩ := h
  have h2 : es.toList[j]? = some e0 := by rw [Array.getElem?_toList]; exact hes
  obtain ⟨hj, hje⟩ := List.getElem?_eq_some_iff.1 h2
  refine ⟨stamped_modify hs j _ (fun e _ => hB e) (fun e _ he => ?_), by simp; omega, ?_, ?_⟩
  · rw [hes] at he; cases he; rw [hF]; exact h3.symm
  · intro x hx
    rcases MapFrom.mem_modify hx with hx | ⟨e, he, rfl⟩
    · exact hk x hx
    · rw [hes] at he; cases he; rw [hF]; exact ⟨kl, hkey⟩
  · have hpw := ((stamped_iff es clock).1 hs).2.2
    have hne : ∀ i e, es[i]? = some e → e.key = key → i = j := by
      intro i e hi hk'
      obtain ⟨hi1, hi2⟩ := List.getElem?_eq_some_iff.1 (show es.toList[i]? = some e by rw [Array.getElem?_toList]; exact hi)
      rcases Nat.lt_trichotomy i j with h | h | h
      · exact absurd ((congrArg MapEntry.key hi2).trans (hk'.trans (h3.symm.trans (congrArg MapEntry.key hje.symm)))) (List.pairwise_iff_getElem.1 hpw i j hi1 hj h)
      · exact h
      · exact absurd ((congrArg MapEntry.key hje).trans (h3.trans (hk'.symm.trans (congrArg MapEntry.key hi2.symm)))) (List.pairwise_iff_getElem.1 hpw j i hj hi1 h)
    intro x v
    by_cases hx : x = key
    · subst hx
      rw [putKey_same]
      constructor
      · intro h; cases h
        refine ⟨F e0, ?_, by rw [hF], by rw [hF]⟩
        refine List.mem_of_getElem? (i := j) ?_
        rw [Array.getElem?_toList, Array.getElem?_modify, if_pos rfl, hes]; rfl
      · rintro ⟨y, hy, hyk, hyv⟩
        obtain ⟨i, hi⟩ := List.mem_iff_getElem?.1 hy
        rw [Array.getElem?_toList, Array.getElem?_modify] at hi
        by_cases hij : j = i
        · rw [if_pos hij, ← hij, hes] at hi
          cases hi
          rw [hF] at hyv; exact congrArg some hyv
        · rw [if_neg hij] at hi
          exact absurd (hne i y hi hyk).symm hij
    · rw [putKey_other _ _ hx, hf]
      constructor
      · rintro ⟨y, hy, hyk, hyv⟩
        obtain ⟨i, hi⟩ := List.mem_iff_getElem?.1 hy
        rw [Array.getElem?_toList] at hi
        have hij : ¬ j = i := by
          rintro rfl
          rw [hes] at hi; cases hi
          exact hx (hyk.symm.trans h3)
        refine ⟨y, List.mem_of_getElem? (i := i) ?_, hyk, hyv⟩
        rw [Array.getElem?_toList, Array.getElem?_modify, if_neg hij]; exact hi
      · rintro ⟨y, hy, hyk, hyv⟩
        obtain ⟨i, hi⟩ := List.mem_iff_getElem?.1 hy
        rw [Array.getElem?_toList, Array.getElem?_modify] at hi
        by_cases hij : j = i
        · rw [if_pos hij, ← hij, hes] at hi
          cases hi
          rw [hF] at hyk; exact absurd hyk.symm hx
        · rw [if_neg hij] at hi
          exact ⟨y, List.mem_of_getElem? (i := i) (by rw [Array.getElem?_toList]; exact hi), hyk, hyv⟩
theorem MapIs.ents (h : MapIs P k b n f w) : ∃ es clock, w.heap[b]? = some (.map es clock) ∧ EntIs P k n f es clock := h
theorem putKey_twice (f : Value → Option Value) (key a c : Value) : putKey (putKey f key a) key c = putKey f key c := by
  funext x
  unfold putKey
  split <;> rfl
theorem find_born {es : Array MapEntry} {clock j : Nat} {e0 : MapEntry} (hs : Stamped es clock) (he : es[j]? = some e0) : es.findIdx? (fun e => (e.born : Int) == (e0.born : Int)) = some j := by
  have hnd := ((stamped_iff es clock).1 hs).2.1
  obtain ⟨hj, hje⟩ := Array.getElem?_eq_some_iff.1 he
  rw [Array.findIdx?_eq_some_iff_getElem]
  refine ⟨hj, by rw [hje]; simp, fun i hij hb => ?_⟩
  have hb' : (es[i]'(by omega)).born = e0.born := by
    have := eq_of_beq hb
    omega
  have h1 := List.pairwise_iff_getElem.1 hnd i j (by simp; omega) (by simp; omega) hij
  simp only [List.getElem_map, Array.getElem_toList] at h1
  exact h1 (hb'.trans (by rw [hje]))
theorem run_entryStore {es : Array MapEntry} {clock j : Nat} {e0 : MapEntry} {t : TypeId} (hb : w.heap[b]? = some (.map es clock)) (hs : Stamped es clock) (hat : es[j]? = some e0) (val : Value) :
    (Instr.entryStore t (.map (some b)) (.int .i64 e0.born) val).run P w = .ok () (ChangeMaps.setBlock w b (.map (es.modify j fun e => { e with val := val }) clock)) := by
  have hfb := find_born hs hat
  simp [Instr.entryStore, MapKept.run_getObj_map hb, asInt, asIntOf, hfb, MapKept.run_setObj_map _ hb, Result.andThen, ChangeMaps.setBlock]
/-- 'm[k] op= v': the entry is laid, then stored -/
theorem MapIs.entry {t e : TypeId} (h : MapIs P k b n f w) (K : Keyed P k) (ht : P.underlying t = some (.map k e)) {z : Value} (hz : ∀ w, (zeroValue e).run P w = .ok z w) {key : Value} {kl : Lit} (hkey : keyOf P k key = some kl) (val : Value) :
    ∃ stamp w1 w2, (Instr.mapEntry t (.map (some b)) key).run P w = .ok (.tuple #[(f key).getD z, stamp]) w1 ∧ MapIs P k b (n + 1) (putKey f key ((f key).getD z)) w1 ∧
      (Instr.entryStore t (.map (some b)) stamp val).run P w1 = .ok () w2 ∧ MapIs P k b (n + 1) (putKey f key val) w2 ∧ Chg [b] w w1 ∧ Chg [b] w w2 := by
  obtain ⟨es, clock, hb, hE⟩ := h.ents
  have hf := hE.2.2.2
  rcases K.find w hkey es.toList hE.2.2.1 with ⟨h1, h2⟩ | ⟨j, e0, h1, h2, h3⟩
  · have hnone : f key = none := by
      cases hv : f key with
      | none => rfl
      | some v =>
        obtain ⟨x, hx, hxk, _⟩ := (hf key v).1 hv
        exact absurd hxk (h2 x hx)
    rw [hnone]
    have hE1 := hE.push (val := z) hkey h2
    have hb1 : (ChangeMaps.setBlock w b (.map (es.push ⟨key, z, clock⟩) (clock + 1))).heap[b]? = _ := ChangeMaps.heap_setBlock_same hb _
    have hat : (es.push (⟨key, z, clock⟩ : MapEntry))[es.size]? = some ⟨key, z, clock⟩ := by simp
    have hE2 := hE1.modify (val := val) hkey hat rfl (fun e => { e with val := val }) rfl (fun _ => rfl)
    rw [putKey_twice] at hE2
    refine ⟨.int .i64 clock, _, ChangeMaps.setBlock (ChangeMaps.setBlock w b (.map (es.push ⟨key, z, clock⟩) (clock + 1))) b (.map ((es.push ⟨key, z, clock⟩).modify es.size fun e => { e with val := val }) (clock + 1)), ?_, ⟨_, _, hb1, hE1⟩, ?_, ⟨_, _, ChangeMaps.heap_setBlock_same hb1 _, hE2⟩, chg_setBlock _ _ _, (chg_setBlock _ _ _).trans (chg_setBlock _ _ _) (fun x hx _ => hx)⟩
    · simp [Instr.mapEntry, run_underlying ht, MapKept.run_getObj_map hb, K.check w false hkey, h1, hz, MapKept.run_setObj_map _ hb, Result.andThen, ChangeMaps.setBlock, goInt]
    · exact run_entryStore hb1 hE1.1 hat val
  · have hes : es[j]? = some e0 := by rw [← Array.getElem?_toList]; exact h2
    have hsome : f key = some e0.val := (hf key e0.val).2 ⟨e0, List.mem_of_getElem? h2, h3, rfl⟩
    rw [hsome]
    have hst := K.stays w hkey
    have hE1 := hE.modify (val := e0.val) hkey hes h3 (fun e => { e with key := key }) rfl (fun _ => rfl)
    have hb1 : (ChangeMaps.setBlock w b (.map (es.modify j fun e => { e with key := key }) clock)).heap[b]? = _ := ChangeMaps.heap_setBlock_same hb _
    have hat : (es.modify j fun e => { e with key := key })[j]? = some { e0 with key := key } := by rw [Array.getElem?_modify, if_pos rfl, hes]; rfl
    have hE2 := hE1.modify (val := val) hkey hat rfl (fun e => { e with val := val }) rfl (fun _ => rfl)
    rw [putKey_twice] at hE2
    refine ⟨.int .i64 e0.born, _, ChangeMaps.setBlock (ChangeMaps.setBlock w b (.map (es.modify j fun e => { e with key := key }) clock)) b (.map ((es.modify j fun e => { e with key := key }).modify j fun e => { e with val := val }) clock), ?_, MapIs.mono ⟨_, _, hb1, hE1⟩ (Nat.le_succ n), ?_, MapIs.mono ⟨_, _, ChangeMaps.heap_setBlock_same hb1 _, hE2⟩ (Nat.le_succ n), chg_setBlock _ _ _, (chg_setBlock _ _ _).trans (chg_setBlock _ _ _) (fun x hx _ => hx)⟩
    · simp [Instr.mapEntry, run_underlying ht, MapKept.run_getObj_map hb, K.check w false hkey, h1, hes, h3, hst, MapKept.run_setObj_map _ hb, Result.andThen, ChangeMaps.setBlock, goInt]
    · exact run_entryStore hb1 hE1.1 hat val
end
end Go.Proofs.Ytbbbdhpihcbmmaa
