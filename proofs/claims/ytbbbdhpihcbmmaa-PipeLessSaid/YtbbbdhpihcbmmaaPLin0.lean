/- Can calls of one name be put in order: what is asked. No program in sight. -/
import Derived.Test.YtbbbdhpihcbmmaaPGo3
import Derived.Laws.BitsAllLaws
namespace Go.Proofs.Ytbbbdhpihcbmmaa
open Go.RowKit Own

/-- a call from its beginning to its end -/
structure SpIn where
  call : CallIn
  fr : Nat
  to : Nat
  known : Bool
  rep : RepIn
instance : Inhabited SpIn := ⟨⟨default, 0, 0, false, default⟩⟩
/-- not done yet -/
def undone (D : Nat) (i : Nat) : Prop := D.testBit i = false
/-- one may be next -/
def May1 (L : List SpIn) (D : Nat) (i : Nat) : Prop := undone D i ∧ ∀ (j : Nat) (hj : j < L.length), undone D j → (L[j]'hj).known = true → ∀ (hi : i < L.length), (L[i]'hi).fr ≤ (L[j]'hj).to
def FitR (s : SpIn) (has : Bool) (b : List UInt8) : Prop := s.known = false ∨ sameB (repOf (doR s.call has b)) s.rep = true
inductive Goes (L : List SpIn) : Nat → Bool → List UInt8 → Prop
  | fin (D : Nat) (has : Bool) (b : List UInt8) : (∀ (j : Nat) (hj : j < L.length), undone D j → (L[j]'hj).known = false) → Goes L D has b
  | step (D : Nat) (has : Bool) (b : List UInt8) (i : Nat) (hi : i < L.length) : May1 L D i → FitR (L[i]'hi) has b → Goes L (D ||| 1 <<< i) (doR (L[i]'hi).call has b).has (doR (L[i]'hi).call has b).b → Goes L D has b
/-- how many of the first n are done -/
def rankD (D : Nat) : Nat → Nat
  | 0 => 0
  | n + 1 => rankD D n + if D.testBit n = true then 1 else 0
theorem rankD_le (D : Nat) : ∀ n, rankD D n ≤ n
  | 0 => Nat.le_refl _
  | n + 1 => by have := rankD_le D n; simp only [rankD]; split <;> omega
theorem testBit_or (D i j : Nat) : (D ||| 1 <<< i).testBit j = (D.testBit j || decide (i = j)) := by
  rw [Nat.testBit_or, Nat.one_shiftLeft, Nat.testBit_two_pow]
theorem rankD_or (D i : Nat) (h : undone D i) : ∀ n, rankD (D ||| 1 <<< i) n = rankD D n + if i < n then 1 else 0
  | 0 => by simp [rankD]
  | n + 1 => by
    have ih := rankD_or D i h n
    simp only [rankD, ih, testBit_or]
    by_cases e : i = n
    · subst e
      unfold undone at h
      simp [h]
    · have hd : (D.testBit n || decide (i = n)) = D.testBit n := by simp [e]
      rw [hd]
      by_cases h1 : i < n
      · rw [if_pos h1, if_pos (show i < n + 1 by omega)]; omega
      · rw [if_neg h1, if_neg (show ¬ i < n + 1 by omega)]; omega
theorem goes_cases {L : List SpIn} {D : Nat} {has : Bool} {b : List UInt8} (h : Goes L D has b) : (∀ (j : Nat) (hj : j < L.length), undone D j → (L[j]'hj).known = false) ∨ ∃ (i : Nat) (hi : i < L.length), May1 L D i ∧ FitR (L[i]'hi) has b ∧ Goes L (D ||| 1 <<< i) (doR (L[i]'hi).call has b).has (doR (L[i]'hi).call has b).b := by
  cases h with
  | fin _ _ _ h => exact .inl h
  | step _ _ _ i hi h1 h2 h3 => exact .inr ⟨i, hi, h1, h2, h3⟩
theorem bit_facts' (D i : Nat) : D / 2 ^ i % 2 = 1 ↔ D.testBit i = true := by rw [Nat.testBit_eq_decide_div_mod_eq, decide_eq_true_eq]
/-- bits of few calls -/
theorem bit_facts (D i : Nat) (hD : D < 256) (hi : i < 8) : (D / 2 ^ i % 2 = 1 ↔ D.testBit i = true) ∧ D ||| 1 <<< i < 256 := by
  constructor
  · rw [Nat.testBit_eq_decide_div_mod_eq, decide_eq_true_eq]
  · have h1 : D < 2 ^ 8 := hD
    have h2 : 1 <<< i < 2 ^ 8 := by rw [Nat.one_shiftLeft]; exact Nat.pow_lt_pow_right (by omega) hi
    exact Nat.or_lt_two_pow h1 h2
theorem bit_and (D q : Nat) (hD : D < 256) : bits .and .u64 ((D : Int) / 2 ^ q) 1 = if D.testBit q = true then 1 else 0 := by
  have e : (D : Int) / 2 ^ q = ((D / 2 ^ q : Nat) : Int) := by simp
  have hlt : D / 2 ^ q < 18446744073709551616 := Nat.lt_of_le_of_lt (Nat.div_le_self _ _) (by omega)
  have h := u64_and_nat (D / 2 ^ q) 1 hlt (by decide)
  rw [e]
  refine h.trans ?_
  rw [Nat.and_one_is_mod]
  have h2 := (bit_facts' D q)
  by_cases hb : D.testBit q = true
  · rw [if_pos hb, h2.2 hb]; rfl
  · rw [if_neg hb]
    have : ¬ D / 2 ^ q % 2 = 1 := fun h => hb (h2.1 h)
    have h3 : D / 2 ^ q % 2 = 0 := by omega
    rw [h3]; rfl
end Go.Proofs.Ytbbbdhpihcbmmaa
