/- What the reference's put leaves, step by step. No program in sight (but for its name). -/
import Derived.Test.YtbbbdhpihcbmmaaPSized2
namespace Go.Proofs.Ytbbbdhpihcbmmaa
open Go.RowKit Own

theorem zeros_length (n : Nat) : (zeros n).length = n := by simp [zeros]
def padL (l : List UInt8) (n : Nat) : List UInt8 := l ++ zeros (n - l.length)
theorem padL_len (l : List UInt8) (n : Nat) : (padL l n).length = max l.length n := by
  simp only [padL, List.length_append, zeros_length]; omega
theorem padL_more {l : List UInt8} {n : Nat} (h : l.length < n) : padL (l ++ [0]) n = padL l n := by
  simp only [padL, List.length_append, List.length_cons, List.length_nil, List.append_assoc]
  congr 1
  rw [show n - l.length = (n - (l.length + (0 + 1))) + 1 by omega]
  rfl
theorem padL_done {l : List UInt8} {n : Nat} (h : n ≤ l.length) : padL l n = l := by
  simp only [padL, show n - l.length = 0 by omega]
  simp [zeros]
theorem zeros_at (n j : Nat) : (zeros n)[j]? = if j < n then some 0 else none := by
  unfold zeros
  rw [List.getElem?_replicate]
theorem padL_at (l : List UInt8) (n j : Nat) : (padL l n)[j]? = if j < l.length then l[j]? else if j < n then some 0 else none := by
  unfold padL
  by_cases h : j < l.length
  · rw [List.getElem?_append_left h, if_pos h]
  · rw [List.getElem?_append_right (by omega), zeros_at, if_neg h]
    by_cases h2 : j < n
    · rw [if_pos h2, if_pos (by omega)]
    · rw [if_neg h2, if_neg (by omega)]
def putI (b : List UInt8) (a : Nat) (d : List UInt8) : Nat → List UInt8
  | 0 => b
  | q + 1 => (padL (putI b a d q) (a + q + 1)).set (a + q) (d.getD q 0)
theorem putI_len (b : List UInt8) (a : Nat) (d : List UInt8) (q : Nat) : (putI b a d q).length = if q = 0 then b.length else max b.length (a + q) := by
  induction q with
  | zero => rfl
  | succ q ih =>
    simp only [putI, List.length_set, padL_len, ih, Nat.succ_ne_zero, if_false]
    split <;> omega
theorem putI_at (b : List UInt8) (a : Nat) (d : List UInt8) (q : Nat) (hq : q ≤ d.length) (j : Nat) : (putI b a d q)[j]? = if a ≤ j ∧ j < a + q then d[j - a]? else if j < b.length then b[j]? else if q ≠ 0 ∧ j < a + q then some 0 else none := by
  induction q generalizing j with
  | zero =>
    rw [if_neg (by omega)]
    by_cases h : j < b.length
    · rw [if_pos h]; rfl
    · rw [if_neg h, if_neg (by simp)]
      exact List.getElem?_eq_none (by simp only [putI]; omega)
  | succ q ih =>
    have hl := putI_len b a d q
    have ih := ih (by omega) j
    simp only [putI, List.getElem?_set, padL_len, padL_at]
    by_cases h1 : a + q = j
    · rw [if_pos h1, if_pos (by omega), if_pos (by omega)]
      rw [show j - a = q by omega, List.getD_eq_getElem?_getD, List.getElem?_eq_getElem (show q < d.length by omega)]
      rfl
    · rw [if_neg h1]
      by_cases h2 : j < (putI b a d q).length
      · rw [if_pos h2, ih]
        by_cases h3 : a ≤ j ∧ j < a + q
        · rw [if_pos h3, if_pos (show a ≤ j ∧ j < a + (q + 1) by omega)]
        · rw [if_neg h3, if_neg (show ¬ (a ≤ j ∧ j < a + (q + 1)) by omega)]
          by_cases h4 : j < b.length
          · rw [if_pos h4, if_pos h4]
          · rw [if_neg h4, if_neg h4]
            by_cases h5 : q = 0
            · rw [hl, if_pos h5] at h2; omega
            · rw [hl, if_neg h5] at h2
              rw [if_pos (show q ≠ 0 ∧ j < a + q by omega), if_pos (show q + 1 ≠ 0 ∧ j < a + (q + 1) by omega)]
      · rw [if_neg h2]
        have hb : ¬ j < b.length := by rw [hl] at h2; split at h2 <;> omega
        have hq2 : ¬ (q ≠ 0 ∧ j < a + q) := by rw [hl] at h2; split at h2 <;> omega
        rw [if_neg (show ¬ (a ≤ j ∧ j < a + (q + 1)) by
          intro h
          by_cases h5 : q = 0
          · omega
          · exact hq2 ⟨h5, by omega⟩), if_neg hb]
        by_cases h6 : j < a + q + 1
        · rw [if_pos h6, if_pos (show q + 1 ≠ 0 ∧ j < a + (q + 1) by omega)]
        · rw [if_neg h6, if_neg (show ¬ (q + 1 ≠ 0 ∧ j < a + (q + 1)) by omega)]
theorem sizedL_at (b : List UInt8) (n j : Nat) (h : b.length ≤ n) : (sizedL b n)[j]? = if j < b.length then b[j]? else if j < n then some 0 else none := by
  unfold sizedL
  split
  · have : n = b.length := by omega
    subst this
    rw [List.take_length]
    by_cases h2 : j < b.length
    · rw [if_pos h2]
    · rw [if_neg h2, if_neg h2]; exact List.getElem?_eq_none (by omega)
  · exact padL_at b n j
theorem putI_all (b : List UInt8) (a : Nat) (d : List UInt8) : putI b a d d.length = if d.length = 0 then b else writtenL b a d := by
  by_cases h0 : d.length = 0
  · rw [if_pos h0, h0]; rfl
  rw [if_neg h0]
  refine List.ext_getElem? fun j => ?_
  rw [putI_at b a d _ (Nat.le_refl _) j]
  unfold writtenL
  have hs := sizedL_len b (max b.length (a + d.length))
  have hat := fun j => sizedL_at b (max b.length (a + d.length)) j (Nat.le_max_left _ _)
  simp only []
  by_cases h1 : a ≤ j ∧ j < a + d.length
  · rw [if_pos h1, List.getElem?_append_left (by simp only [List.length_append, List.length_take, hs]; omega), List.getElem?_append_right (by simp only [List.length_take, hs]; omega)]
    congr 1
    simp only [List.length_take, hs]; omega
  · rw [if_neg h1]
    have hr : (if j < b.length then b[j]? else if d.length ≠ 0 ∧ j < a + d.length then some 0 else none) = (sizedL b (max b.length (a + d.length)))[j]? := by
      rw [hat]
      by_cases h2 : j < b.length
      · rw [if_pos h2, if_pos h2]
      · rw [if_neg h2, if_neg h2]
        by_cases h3 : j < a + d.length
        · rw [if_pos (by omega), if_pos (by omega)]
        · rw [if_neg (by omega), if_neg (by omega)]
    rw [hr]
    by_cases h2 : j < a
    · rw [List.append_assoc, List.getElem?_append_left (by simp only [List.length_take, hs]; omega), List.getElem?_take, if_pos h2]
    · rw [List.getElem?_append_right (by simp only [List.length_append, List.length_take, hs]; omega), List.getElem?_drop]
      congr 1
      simp only [List.length_append, List.length_take, hs]; omega
end Go.Proofs.Ytbbbdhpihcbmmaa
