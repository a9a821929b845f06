/- A history that may be: how many calls of one name. No program in sight (but for its name). -/
import Derived.Test.YtbbbdhpihcbmmaaPSp1
import Derived.Test.YtbbbdhpihcbmmaaRange
namespace Go.Proofs.Ytbbbdhpihcbmmaa
open Go.RowKit Own

theorem cntN_cons (N : List ByteArray) (t s : ByteArray) : cntN (t :: N) s = cntN N s + if s = t then 1 else 0 := by
  unfold cntN
  by_cases e : s = t
  · subst e; simp
  · rw [if_neg e, List.filter_cons_of_neg (by simpa using fun h : t = s => e h.symm)]; omega
theorem upTo_succ_len {xs : List EvIn} {j : Nat} (hj : j < xs.length) (s : ByteArray) : (upTo xs s (j + 1)).length = (upTo xs s j).length + if (xs[j]'hj).done = false ∧ s = (xs[j]'hj).call.s then 1 else 0 := by
  simp only [upTo, List.getElem?_eq_getElem hj, List.length_append]
  split <;> simp
theorem run_most {xs : List EvIn} : ∀ (m j : Nat) (st st' : CS), xs.length - j = m → csRun (xs.drop j) st = some st' → (∀ s, cntN st.ns s = (upTo xs s j).length) → (∀ s, cntN st.ns s ≤ st.most) → ∀ s, (upTo xs s xs.length).length ≤ st'.most := by
  intro m
  induction m with
  | zero =>
    intro j st st' hm hrun h1 h2 s
    have hj : xs.length ≤ j := by omega
    rw [List.drop_eq_nil_of_le hj] at hrun
    cases hrun
    have hmono : ∀ d, (upTo xs s xs.length).length = (upTo xs s (xs.length + d)).length := by
      intro d
      induction d with
      | zero => rfl
      | succ d ih =>
        rw [ih, show xs.length + (d + 1) = (xs.length + d) + 1 from rfl]
        simp only [upTo, List.getElem?_eq_none (show xs.length ≤ xs.length + d by omega), List.append_nil]
    have := hmono (j - xs.length)
    rw [show xs.length + (j - xs.length) = j by omega] at this
    rw [this, ← h1 s]; exact h2 s
  | succ m ih =>
    intro j st st' hm hrun h1 h2 s
    have hj : j < xs.length := by omega
    rw [List.drop_eq_getElem_cons hj, csRun] at hrun
    split at hrun
    · refine ih (j + 1) _ st' (by omega) hrun (fun t => ?_) (fun t => ?_) s
      · rw [upTo_succ_len hj, ← h1 t]
        unfold csStep
        split
        · rename_i hd; simp [hd]
        · rename_i hd
          have hd' : (xs[j]'hj).done = false := by simpa using hd
          simp only [cntN_cons, hd', true_and]
      · unfold csStep
        split
        · exact h2 t
        · simp only []
          by_cases e : t = (xs[j]'hj).call.s
          · subst e; omega
          · rw [cntN_cons, if_neg e]; have := h2 t; omega
    · cases hrun
theorem chk_few {xs : List EvIn} (h : chkH xs = 0) : xs.length ≤ 64 ∧ ∀ s, (upTo xs s xs.length).length ≤ 8 := by
  unfold chkH at h
  split at h
  · cases h
  · rename_i h64
    split at h
    · cases h
    · rename_i st hst
      split at h
      · cases h
      · rename_i h8
        refine ⟨Nat.le_of_not_lt h64, fun s => ?_⟩
        have := run_most xs.length 0 _ st (Nat.sub_zero _) (by simpa using hst) (fun _ => rfl) (fun _ => Nat.le_refl _) s
        omega
theorem spanOf_ok {xs : List EvIn} (hok : ∀ x ∈ xs, EvOk x) (hn : xs.length ≤ 64) {j : Nat} (hj : j < xs.length) : SpOk (spanOf xs (xs[j]'hj) j) := by
  have hx := hok _ (List.getElem_mem hj)
  unfold spanOf
  split
  · rename_i h
    split
    · exact ⟨hx.call, Nat.zero_le _, by simp only []; omega, by simp only []; omega⟩
    · exact ⟨hx.call, (hok _ (List.getElem_mem h)).rd, by simp only []; omega, by simp only []; omega⟩
  · exact ⟨hx.call, Nat.zero_le _, by simp only []; omega, by simp only []; omega⟩
theorem upTo_mem {xs : List EvIn} {s : ByteArray} {p : SpIn} : ∀ {j : Nat}, p ∈ upTo xs s j → ∃ (i : Nat) (hi : i < xs.length), i < j ∧ (xs[i]'hi).done = false ∧ s = (xs[i]'hi).call.s ∧ p = spanOf xs (xs[i]'hi) i
  | 0, h => by cases h
  | j + 1, h => by
    simp only [upTo] at h
    rcases List.mem_append.1 h with h | h
    · obtain ⟨i, hi, hij, r⟩ := upTo_mem h
      exact ⟨i, hi, by omega, r⟩
    · by_cases hj : j < xs.length
      · rw [List.getElem?_eq_getElem hj] at h
        simp only [] at h
        split at h
        · rename_i hc
          rw [List.mem_singleton] at h
          exact ⟨j, hj, by omega, hc.1, hc.2, h⟩
        · cases h
      · rw [List.getElem?_eq_none (by omega)] at h; cases h
theorem upTo_ok {xs : List EvIn} (hok : ∀ x ∈ xs, EvOk x) (hn : xs.length ≤ 64) {s : ByteArray} {j : Nat} {p : SpIn} (h : p ∈ upTo xs s j) : SpOk p := by
  obtain ⟨i, hi, _, _, _, rfl⟩ := upTo_mem h
  exact spanOf_ok hok hn hi
/-- every name's calls can be put in order -/
def RightB (xs : List EvIn) : Prop := ∀ s, Goes (upTo xs s xs.length) 0 false []
theorem goes_nil (D : Nat) (has : Bool) (b : List UInt8) : Goes [] D has b := Goes.fin D has b (fun j hj => by cases hj)
end Go.Proofs.Ytbbbdhpihcbmmaa
