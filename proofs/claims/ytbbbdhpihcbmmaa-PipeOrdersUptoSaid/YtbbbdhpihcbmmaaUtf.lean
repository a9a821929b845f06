/- Plain facts on UTF-8, with no program in sight: the runes of a text as the model's own decoder tells them, the reference's decoder, and what follows. -/
import Derived.Lib.RuneCount
import Derived.Lib.DecodeN
import Derived.Lib.Strings
namespace Go.Proofs.Ytbbbdhpihcbmmaa
namespace Utf

/-- byte i, as a number (0 behind the end) -/
def by_ (s : ByteArray) (i : Nat) : Nat := (s.get! i).toNat
theorem by_lt (s : ByteArray) (i : Nat) : by_ s i < 256 := (s.get! i).toNat_lt
theorem by_at (s : ByteArray) (i : Nat) (h : i < s.size) : (s[i]'h).toNat = by_ s i := by
  unfold by_
  have := get_at s i h
  rw [Nat.add_zero] at this
  rw [this]

/-- no rune begins here -/
def bad (s : ByteArray) (i : Nat) : Prop := Utf8.decode s i = (65533, 1)
instance (s : ByteArray) (i : Nat) : Decidable (bad s i) := by unfold bad; infer_instance

def runesFrom (s : ByteArray) : Nat → Nat → Option (List Nat)
  | 0, i => if i < s.size then none else some []
  | f + 1, i => if i < s.size then (if bad s i then none else (runesFrom s f (i + (Utf8.decode s i).2)).map ((Utf8.decode s i).1 :: ·)) else some []
def runes (s : ByteArray) : Option (List Nat) := runesFrom s s.size 0

theorem runesFrom_end (s : ByteArray) (f i : Nat) (h : ¬ i < s.size) : runesFrom s f i = some [] := by
  cases f <;> simp [runesFrom, h]

/-- the reference's step: none where it refuses -/
def refN (n b0 b1 b2 b3 : Nat) : Option (Nat × Nat) :=
  if b0 < 128 then some (b0, 1)
  else if 192 ≤ b0 ∧ b0 < 224 then
    (if 1 < n ∧ 128 ≤ b1 ∧ b1 < 192 then
      (if (b0 - 192) * 64 + b1 - 128 < 128 then none else some ((b0 - 192) * 64 + b1 - 128, 2)) else none)
  else if 224 ≤ b0 ∧ b0 < 240 then
    (if (1 < n ∧ 128 ≤ b1 ∧ b1 < 192) ∧ (2 < n ∧ 128 ≤ b2 ∧ b2 < 192) then
      (if ((b0 - 224) * 64 + b1 - 128) * 64 + b2 - 128 < 2048 ∨ (55296 ≤ ((b0 - 224) * 64 + b1 - 128) * 64 + b2 - 128 ∧ ((b0 - 224) * 64 + b1 - 128) * 64 + b2 - 128 < 57344) then none
       else some (((b0 - 224) * 64 + b1 - 128) * 64 + b2 - 128, 3)) else none)
  else if 240 ≤ b0 ∧ b0 < 248 then
    (if (1 < n ∧ 128 ≤ b1 ∧ b1 < 192) ∧ (2 < n ∧ 128 ≤ b2 ∧ b2 < 192) ∧ (3 < n ∧ 128 ≤ b3 ∧ b3 < 192) then
      (if (((b0 - 240) * 64 + b1 - 128) * 64 + b2 - 128) * 64 + b3 - 128 < 65536 ∨ 1114111 < (((b0 - 240) * 64 + b1 - 128) * 64 + b2 - 128) * 64 + b3 - 128 then none
       else some ((((b0 - 240) * 64 + b1 - 128) * 64 + b2 - 128) * 64 + b3 - 128, 4)) else none)
  else none

theorem refN_of {d : Nat × Nat} {o : Option (Nat × Nat)} (h : (o = none ∧ d = (65533, 1)) ∨ (o = some d ∧ d ≠ (65533, 1))) : o = if d = (65533, 1) then none else some d := by
  rcases h with ⟨rfl, rfl⟩ | ⟨rfl, h⟩
  · simp
  · rw [if_neg h]
theorem pair_ne {a k : Nat} (h : k ≠ 1 ∨ a ≠ 65533) : ((a, k) : Nat × Nat) ≠ (65533, 1) := by
  intro e
  simp only [Prod.mk.injEq] at e
  omega

set_option maxHeartbeats 2000000 in
theorem refN_eq (n b0 b1 b2 b3 : Nat) (h0 : b0 < 256) (h1 : b1 < 256) (h2 : b2 < 256) (h3 : b3 < 256) :
    refN n b0 b1 b2 b3 = if Lib.decodeN n b0 b1 b2 b3 = (65533, 1) then none else some (Lib.decodeN n b0 b1 b2 b3) := by
  refine refN_of ?_
  unfold refN Lib.decodeN
  by_cases c0 : b0 < 128
  · rw [if_pos c0, if_pos c0]; exact .inr ⟨rfl, pair_ne (.inr (by omega))⟩
  rw [if_neg c0, if_neg c0]
  by_cases c1 : 192 ≤ b0 ∧ b0 < 224
  · rw [if_pos c1]
    by_cases t : 1 < n ∧ 128 ≤ b1 ∧ b1 < 192
    · have e : (b0 - 192) * 64 + b1 - 128 = b0 % 32 * 64 + b1 % 64 := by omega
      rw [if_pos t, if_pos (by omega : b0 / 32 = 6 ∧ (1 < n ∧ b1 / 64 = 2)), e]
      generalize hx : b0 % 32 * 64 + b1 % 64 = x
      by_cases q : x < 128
      · rw [if_pos q, if_neg (by omega)]; exact .inl ⟨rfl, rfl⟩
      · rw [if_neg q, if_pos (by omega)]; exact .inr ⟨rfl, pair_ne (.inl (by omega))⟩
    · rw [if_neg t, if_neg (by omega), if_neg (by omega), if_neg (by omega)]; exact .inl ⟨rfl, rfl⟩
  rw [if_neg c1]
  by_cases c2 : 224 ≤ b0 ∧ b0 < 240
  · rw [if_pos c2, if_neg (by omega : ¬ (b0 / 32 = 6 ∧ (1 < n ∧ b1 / 64 = 2)))]
    by_cases t : (1 < n ∧ 128 ≤ b1 ∧ b1 < 192) ∧ (2 < n ∧ 128 ≤ b2 ∧ b2 < 192)
    · have e : ((b0 - 224) * 64 + b1 - 128) * 64 + b2 - 128 = b0 % 16 * 4096 + b1 % 64 * 64 + b2 % 64 := by omega
      rw [if_pos t, if_pos (by omega : b0 / 16 = 14 ∧ (1 < n ∧ b1 / 64 = 2) ∧ (2 < n ∧ b2 / 64 = 2)), e]
      generalize hx : b0 % 16 * 4096 + b1 % 64 * 64 + b2 % 64 = x
      by_cases q : x < 2048 ∨ (55296 ≤ x ∧ x < 57344)
      · rw [if_pos q, if_neg (by omega)]; exact .inl ⟨rfl, rfl⟩
      · rw [if_neg q, if_pos (by omega)]; exact .inr ⟨rfl, pair_ne (.inl (by omega))⟩
    · rw [if_neg t, if_neg (by omega), if_neg (by omega)]; exact .inl ⟨rfl, rfl⟩
  rw [if_neg c2]
  by_cases c3 : 240 ≤ b0 ∧ b0 < 248
  · rw [if_pos c3, if_neg (by omega : ¬ (b0 / 32 = 6 ∧ (1 < n ∧ b1 / 64 = 2))), if_neg (by omega : ¬ (b0 / 16 = 14 ∧ (1 < n ∧ b1 / 64 = 2) ∧ (2 < n ∧ b2 / 64 = 2)))]
    by_cases t : (1 < n ∧ 128 ≤ b1 ∧ b1 < 192) ∧ (2 < n ∧ 128 ≤ b2 ∧ b2 < 192) ∧ (3 < n ∧ 128 ≤ b3 ∧ b3 < 192)
    · have e : (((b0 - 240) * 64 + b1 - 128) * 64 + b2 - 128) * 64 + b3 - 128 = b0 % 8 * 262144 + b1 % 64 * 4096 + b2 % 64 * 64 + b3 % 64 := by omega
      rw [if_pos t, if_pos (by omega : b0 / 8 = 30 ∧ (1 < n ∧ b1 / 64 = 2) ∧ (2 < n ∧ b2 / 64 = 2) ∧ (3 < n ∧ b3 / 64 = 2)), e]
      generalize hx : b0 % 8 * 262144 + b1 % 64 * 4096 + b2 % 64 * 64 + b3 % 64 = x
      by_cases q : x < 65536 ∨ 1114111 < x
      · rw [if_pos q, if_neg (by omega)]; exact .inl ⟨rfl, rfl⟩
      · rw [if_neg q, if_pos (by omega)]; exact .inr ⟨rfl, pair_ne (.inl (by omega))⟩
    · rw [if_neg t, if_neg (by omega)]; exact .inl ⟨rfl, rfl⟩
  rw [if_neg c3, if_neg (by omega), if_neg (by omega), if_neg (by omega)]; exact .inl ⟨rfl, rfl⟩

theorem dec_at (s : ByteArray) (i : Nat) : Utf8.decode s i = Lib.decodeN (s.size - i) (by_ s i) (by_ s (i + 1)) (by_ s (i + 2)) (by_ s (i + 3)) := Lib.decode_at s i

def refAt (s : ByteArray) (i : Nat) : Option (Nat × Nat) := refN (s.size - i) (by_ s i) (by_ s (i + 1)) (by_ s (i + 2)) (by_ s (i + 3))
theorem refAt_eq (s : ByteArray) (i : Nat) : refAt s i = if bad s i then none else some (Utf8.decode s i) := by
  have h := refN_eq (s.size - i) _ _ _ _ (by_lt s i) (by_lt s (i + 1)) (by_lt s (i + 2)) (by_lt s (i + 3))
  rw [← dec_at] at h
  unfold refAt
  rw [h]
  by_cases hb : bad s i
  · rw [if_pos hb, if_pos (show Utf8.decode s i = (65533, 1) from hb)]
  · rw [if_neg hb, if_neg (show ¬ Utf8.decode s i = (65533, 1) from hb)]

/-- what a good decoding is, by its width -/
theorem dec_cases (s : ByteArray) (i : Nat) (h : ¬ bad s i) :
    (by_ s i < 128 ∧ Utf8.decode s i = (by_ s i, 1)) ∨
    ((194 ≤ by_ s i ∧ by_ s i < 224 ∧ 1 < s.size - i ∧ 128 ≤ by_ s (i + 1) ∧ by_ s (i + 1) < 192) ∧ Utf8.decode s i = ((by_ s i - 192) * 64 + (by_ s (i + 1) - 128), 2)) ∨
    ((224 ≤ by_ s i ∧ by_ s i < 240 ∧ 2 < s.size - i ∧ 128 ≤ by_ s (i + 1) ∧ by_ s (i + 1) < 192 ∧ 128 ≤ by_ s (i + 2) ∧ by_ s (i + 2) < 192 ∧ 2048 ≤ (by_ s i - 224) * 4096 + (by_ s (i + 1) - 128) * 64 + (by_ s (i + 2) - 128)) ∧
      Utf8.decode s i = ((by_ s i - 224) * 4096 + (by_ s (i + 1) - 128) * 64 + (by_ s (i + 2) - 128), 3)) ∨
    ((240 ≤ by_ s i ∧ by_ s i < 245 ∧ 3 < s.size - i ∧ 128 ≤ by_ s (i + 1) ∧ by_ s (i + 1) < 192 ∧ 128 ≤ by_ s (i + 2) ∧ by_ s (i + 2) < 192 ∧ 128 ≤ by_ s (i + 3) ∧ by_ s (i + 3) < 192 ∧
      65536 ≤ (by_ s i - 240) * 262144 + (by_ s (i + 1) - 128) * 4096 + (by_ s (i + 2) - 128) * 64 + (by_ s (i + 3) - 128)) ∧
      Utf8.decode s i = ((by_ s i - 240) * 262144 + (by_ s (i + 1) - 128) * 4096 + (by_ s (i + 2) - 128) * 64 + (by_ s (i + 3) - 128), 4)) := by
  have e := refAt_eq s i
  rw [if_neg h] at e
  have b0 := by_lt s i
  have b1 := by_lt s (i + 1)
  have b2 := by_lt s (i + 2)
  have b3 := by_lt s (i + 3)
  unfold refAt refN at e
  generalize by_ s i = x0 at *
  generalize by_ s (i + 1) = x1 at *
  generalize by_ s (i + 2) = x2 at *
  generalize by_ s (i + 3) = x3 at *
  generalize Utf8.decode s i = d at *
  generalize s.size - i = n at *
  obtain ⟨d1, d2⟩ := d
  clear h
  split at e
  · obtain ⟨rfl, rfl⟩ : x0 = d1 ∧ 1 = d2 := by simpa using e
    exact .inl ⟨by omega, rfl⟩
  · split at e
    · split at e
      · split at e
        · cases e
        · obtain ⟨h1, rfl⟩ : _ = d1 ∧ 2 = d2 := by simpa only [Option.some.injEq, Prod.mk.injEq] using e
          exact .inr (.inl ⟨by omega, Prod.ext (by show d1 = _; omega) rfl⟩)
      · cases e
    · split at e
      · split at e
        · split at e
          · cases e
          · obtain ⟨h1, rfl⟩ : _ = d1 ∧ 3 = d2 := by simpa only [Option.some.injEq, Prod.mk.injEq] using e
            exact .inr (.inr (.inl ⟨by omega, Prod.ext (by show d1 = _; omega) rfl⟩))
        · cases e
      · split at e
        · split at e
          · split at e
            · cases e
            · obtain ⟨h1, rfl⟩ : _ = d1 ∧ 4 = d2 := by simpa only [Option.some.injEq, Prod.mk.injEq] using e
              exact .inr (.inr (.inr ⟨by omega, Prod.ext (by show d1 = _; omega) rfl⟩))
          · cases e
        · cases e

theorem width_pos (s : ByteArray) (i : Nat) (h : i < s.size) : 1 ≤ (Utf8.decode s i).2 := Lib.decode_width_pos s i h
theorem width_le (s : ByteArray) (i : Nat) (h : i < s.size) (hb : ¬ bad s i) : i + (Utf8.decode s i).2 ≤ s.size := by
  rcases dec_cases s i hb with ⟨_, e⟩ | ⟨_, e⟩ | ⟨_, e⟩ | ⟨_, e⟩ <;> rw [e] <;> simp only [] <;> omega
theorem rune_le (s : ByteArray) (i : Nat) (hb : ¬ bad s i) : (Utf8.decode s i).1 < 2097152 := by
  have b0 := by_lt s i
  rcases dec_cases s i hb with ⟨_, e⟩ | ⟨_, e⟩ | ⟨_, e⟩ | ⟨_, e⟩ <;> rw [e] <;> simp only [] <;> omega

theorem runesFrom_length (s : ByteArray) : ∀ f i l, i ≤ s.size → runesFrom s f i = some l → l.length ≤ s.size - i
  | 0, i, l, hi, h => by
    simp only [runesFrom] at h
    split at h
    · cases h
    · cases h; simp
  | f + 1, i, l, hi, h => by
    simp only [runesFrom] at h
    split at h
    · rename_i hlt
      split at h
      · cases h
      · rename_i hb
        obtain ⟨r, hr, rfl⟩ := Option.map_eq_some_iff.1 h
        have := runesFrom_length s f _ r (width_le s i hlt hb) hr
        have := width_pos s i hlt
        have := width_le s i hlt hb
        simp only [List.length_cons]
        omega
    · cases h; simp

/-- one round, good -/
theorem runesFrom_step (s : ByteArray) (f i : Nat) (h : i < s.size) (hb : ¬ bad s i) :
    runesFrom s (f + 1) i = (runesFrom s f (i + (Utf8.decode s i).2)).map ((Utf8.decode s i).1 :: ·) := by
  simp only [runesFrom]
  rw [if_pos h, if_neg hb]
theorem runesFrom_bad (s : ByteArray) (f i : Nat) (h : i < s.size) (hb : bad s i) : runesFrom s f i = none := by
  cases f
  · simp [runesFrom, h]
  · simp [runesFrom, h, hb]
/-- fuel enough is enough -/
theorem runesFrom_fuel (s : ByteArray) : ∀ f g i, s.size ≤ i + f → s.size ≤ i + g → runesFrom s f i = runesFrom s g i
  | 0, g, i, hf, hg => by rw [runesFrom_end s 0 i (by omega), runesFrom_end s g i (by omega)]
  | f + 1, 0, i, hf, hg => by rw [runesFrom_end s 0 i (by omega), runesFrom_end s (f + 1) i (by omega)]
  | f + 1, g + 1, i, hf, hg => by
    by_cases h : i < s.size
    · by_cases hb : bad s i
      · rw [runesFrom_bad s _ i h hb, runesFrom_bad s _ i h hb]
      · have := width_pos s i h
        rw [runesFrom_step s f i h hb, runesFrom_step s g i h hb, runesFrom_fuel s f g _ (by omega) (by omega)]
    · rw [runesFrom_end s _ i h, runesFrom_end s _ i h]

/-- the runes from a place on -/
def rest (s : ByteArray) (i : Nat) : Option (List Nat) := runesFrom s s.size i
theorem rest_end (s : ByteArray) (i : Nat) (h : ¬ i < s.size) : rest s i = some [] := runesFrom_end s _ i h
theorem rest_bad (s : ByteArray) (i : Nat) (h : i < s.size) (hb : bad s i) : rest s i = none := runesFrom_bad s _ i h hb
theorem rest_step (s : ByteArray) (i : Nat) (h : i < s.size) (hb : ¬ bad s i) : rest s i = (rest s (i + (Utf8.decode s i).2)).map ((Utf8.decode s i).1 :: ·) := by
  unfold rest
  have hp := width_pos s i h
  rw [runesFrom_fuel s s.size (s.size - i - 1 + 1) i (by omega) (by omega), runesFrom_step s _ i h hb, runesFrom_fuel s (s.size - i - 1) s.size _ (by omega) (by omega)]
theorem runes_rest (s : ByteArray) : runes s = rest s 0 := rfl
theorem rest_length (s : ByteArray) (i : Nat) (l : List Nat) (hi : i ≤ s.size) (h : rest s i = some l) : l.length ≤ s.size - i := runesFrom_length s _ i l hi h

/-- a place at which a rune begins, of a text that is UTF-8, is no bad one -/
theorem rest_good {s : ByteArray} {i : Nat} {l : List Nat} (h : rest s i = some l) (hi : i < s.size) : ¬ bad s i := fun hb => by
  rw [rest_bad s i hi hb] at h; cases h

/-- the reference's rune with so many bytes -/
def runeSize (r : Nat) : Nat := if r < 128 then 1 else if r < 2048 then 2 else if r < 65536 then 3 else 4
theorem runeSize_dec (s : ByteArray) (i : Nat) (hb : ¬ bad s i) : runeSize (Utf8.decode s i).1 = (Utf8.decode s i).2 := by
  unfold runeSize
  rcases dec_cases s i hb with ⟨_, e⟩ | ⟨_, e⟩ | ⟨_, e⟩ | ⟨_, e⟩ <;> rw [e] <;> simp only []
  · rw [if_pos (by omega)]
  · rw [if_neg (by omega), if_pos (by omega)]
  · rw [if_neg (by omega), if_neg (by omega), if_pos (by omega)]
  · rw [if_neg (by omega), if_neg (by omega), if_neg (by omega)]

/-- the place behind the first n runes from i on -/
def posAt (s : ByteArray) : Nat → Nat → Nat
  | i, 0 => i
  | i, n + 1 => if i < s.size then posAt s (i + (Utf8.decode s i).2) n else i
theorem posAt_size (s : ByteArray) : ∀ (n i : Nat) (l : List Nat), i ≤ s.size → rest s i = some l → posAt s i n = i + ((l.take n).map runeSize).sum
  | 0, i, l, _, _ => by simp [posAt]
  | n + 1, i, l, hi, h => by
    simp only [posAt]
    by_cases hlt : i < s.size
    · have hb := rest_good h hlt
      rw [rest_step s i hlt hb] at h
      obtain ⟨r, hr, rfl⟩ := Option.map_eq_some_iff.1 h
      rw [if_pos hlt, posAt_size s n _ r (width_le s i hlt hb) hr]
      simp only [List.take_succ_cons, List.map_cons, List.sum_cons, runeSize_dec s i hb]
      omega
    · rw [rest_end s i hlt] at h
      cases h
      rw [if_neg hlt]
      simp
theorem posAt_le (s : ByteArray) : ∀ (n i : Nat) (l : List Nat), i ≤ s.size → rest s i = some l → i ≤ posAt s i n ∧ posAt s i n ≤ s.size
  | 0, i, l, hi, _ => by simp [posAt]; exact hi
  | n + 1, i, l, hi, h => by
    simp only [posAt]
    by_cases hlt : i < s.size
    · have hb := rest_good h hlt
      rw [rest_step s i hlt hb] at h
      obtain ⟨r, hr, rfl⟩ := Option.map_eq_some_iff.1 h
      have := posAt_le s n _ r (width_le s i hlt hb) hr
      rw [if_pos hlt]
      omega
    · rw [if_neg hlt]; omega
theorem posAt_all (s : ByteArray) : ∀ (n i : Nat) (l : List Nat), i ≤ s.size → rest s i = some l → l.length ≤ n → posAt s i n = s.size
  | 0, i, l, hi, h, hn => by
    by_cases hlt : i < s.size
    · have hb := rest_good h hlt
      rw [rest_step s i hlt hb] at h
      obtain ⟨r, hr, rfl⟩ := Option.map_eq_some_iff.1 h
      simp at hn
    · simp only [posAt]; omega
  | n + 1, i, l, hi, h, hn => by
    simp only [posAt]
    by_cases hlt : i < s.size
    · have hb := rest_good h hlt
      rw [rest_step s i hlt hb] at h
      obtain ⟨r, hr, rfl⟩ := Option.map_eq_some_iff.1 h
      rw [if_pos hlt]
      exact posAt_all s n _ r (width_le s i hlt hb) hr (by simp at hn; omega)
    · rw [if_neg hlt]; omega

/-! ### bytes as a list -/
theorem by_list (s : ByteArray) (i : Nat) : by_ s i = ((s.data.toList[i]?).getD 0).toNat := by
  unfold by_
  have : s.get! i = (s.data.toList[i]?).getD 0 := by
    show s.data[i]! = _
    rw [getElem!_def]
    simp only [Array.getElem?_toList]
    cases s.data[i]? <;> rfl
  rw [this]
theorem by_extract (s : ByteArray) (a b j : Nat) (hj : j < b - a) : by_ (s.extract a b) j = by_ s (a + j) := by
  rw [by_list, by_list, Lib.extract_data, List.getElem?_take_of_lt hj, List.getElem?_drop]
theorem size_extract (s : ByteArray) (a b : Nat) (h : b ≤ s.size) : (s.extract a b).size = b - a := by
  rw [Lib.size_eq, Lib.extract_data, List.length_take, List.length_drop, ← Lib.size_eq]
  omega
theorem data_ext {s t : ByteArray} (h : s.data.toList = t.data.toList) : s = t := by
  rw [← Lib.mk_data s, ← Lib.mk_data t, h]

/-- does a text begin with the rune FFFD, written out? -/
def pre3 (t : ByteArray) : Bool := decide (3 ≤ t.size) && ((t.extract 0 3).toList == [239, 191, 189])
theorem pre3_iff (t : ByteArray) : pre3 t = true ↔ 3 ≤ t.size ∧ by_ t 0 = 239 ∧ by_ t 1 = 191 ∧ by_ t 2 = 189 := by
  unfold pre3
  rw [Lib.extract_toList, Bool.and_eq_true, decide_eq_true_eq, beq_iff_eq, by_list, by_list, by_list, Lib.size_eq]
  simp only [List.drop_zero, Nat.sub_zero]
  match t.data.toList with
  | [] => simp
  | [a] => simp
  | [a, b] => simp
  | a :: b :: c :: r =>
    simp only [List.length_cons, List.take_succ_cons, List.take_zero, List.cons.injEq, and_true, List.getElem?_cons_zero, List.getElem?_cons_succ, Option.getD_some, ← UInt8.toNat_inj]
    constructor
    · rintro ⟨_, h1, h2, h3⟩; exact ⟨by omega, h1, h2, h3⟩
    · rintro ⟨_, h1, h2, h3⟩; exact ⟨by omega, h1, h2, h3⟩

theorem pre3_good (s : ByteArray) (i : Nat) (hb : ¬ bad s i) (hr : (Utf8.decode s i).1 = 65533) : pre3 (s.extract i s.size) = true := by
  rw [pre3_iff, size_extract s i s.size (Nat.le_refl _)]
  have b0 := by_lt s i
  rcases dec_cases s i hb with ⟨_, e⟩ | ⟨_, e⟩ | ⟨c, e⟩ | ⟨c, e⟩ <;> rw [e] at hr <;> simp only [] at hr
  · omega
  · omega
  · rw [by_extract s i s.size 0 (by omega), by_extract s i s.size 1 (by omega), by_extract s i s.size 2 (by omega), Nat.add_zero]
    omega
  · omega
theorem pre3_bad (s : ByteArray) (i : Nat) (hb : bad s i) : pre3 (s.extract i s.size) = false := by
  rw [Bool.eq_false_iff]
  intro hp
  rw [pre3_iff, size_extract s i s.size (Nat.le_refl _)] at hp
  obtain ⟨h3, p0, p1, p2⟩ := hp
  rw [by_extract s i s.size _ (by omega)] at p0 p1 p2
  rw [Nat.add_zero] at p0
  have e := refAt_eq s i
  rw [if_pos hb] at e
  unfold refAt refN at e
  rw [p0, p1, p2, if_neg (by omega), if_neg (by omega), if_pos (by omega), if_pos (by omega), if_neg (by omega)] at e
  cases e

/-! ### blanks at the ends -/
theorem rune_32 (s : ByteArray) (i : Nat) (hb : ¬ bad s i) : (Utf8.decode s i).1 = 32 ↔ by_ s i = 32 := by
  rcases dec_cases s i hb with ⟨_, e⟩ | ⟨_, e⟩ | ⟨_, e⟩ | ⟨_, e⟩ <;> rw [e] <;> simp only [] <;> omega
theorem head_32 (s : ByteArray) (l : List Nat) (h : rest s 0 = some l) (h0 : 0 < s.size) : l.head? = some 32 ↔ by_ s 0 = 32 := by
  have hb := rest_good h h0
  rw [rest_step s 0 h0 hb] at h
  obtain ⟨q, _, rfl⟩ := Option.map_eq_some_iff.1 h
  rw [List.head?_cons, Option.some.injEq, rune_32 s 0 hb]
theorem rest_nil {s : ByteArray} {i : Nat} (h : rest s i = some []) : ¬ i < s.size := fun hi => by
  rw [rest_step s i hi (rest_good h hi)] at h
  obtain ⟨q, _, hq⟩ := Option.map_eq_some_iff.1 h
  cases hq
theorem last_32 (s : ByteArray) : ∀ (n i : Nat) (l : List Nat), s.size - i ≤ n → rest s i = some l → i < s.size → (l.getLast? = some 32 ↔ by_ s (s.size - 1) = 32)
  | 0, i, l, hn, h, hi => by omega
  | n + 1, i, l, hn, h, hi => by
    have hb := rest_good h hi
    have hw := width_pos s i hi
    have hle := width_le s i hi hb
    rw [rest_step s i hi hb] at h
    obtain ⟨q, hq, rfl⟩ := Option.map_eq_some_iff.1 h
    by_cases hlt : i + (Utf8.decode s i).2 < s.size
    · have ih := last_32 s n _ q (by omega) hq hlt
      cases q with
      | nil => exact absurd hlt (rest_nil hq)
      | cons x q => rw [List.getLast?_cons_cons]; exact ih
    · rw [rest_end s _ hlt] at hq
      cases hq
      rw [List.getLast?_singleton, Option.some.injEq]
      have he : s.size = i + (Utf8.decode s i).2 := by omega
      rcases dec_cases s i hb with ⟨_, e⟩ | ⟨_, e⟩ | ⟨_, e⟩ | ⟨_, e⟩ <;> rw [e] at he ⊢ <;> simp only [] at he ⊢
      · rw [show s.size - 1 = i by omega]
      · rw [show s.size - 1 = i + 1 by omega]; omega
      · rw [show s.size - 1 = i + 2 by omega]; omega
      · rw [show s.size - 1 = i + 3 by omega]; omega

/-! ### the first runes of the first runes -/
theorem refN_mono {n n' b0 b1 b2 b3 c1 c2 c3 r w : Nat} (h : refN n b0 b1 b2 b3 = some (r, w)) (hn : w ≤ n') (h1 : 1 < w → b1 = c1) (h2 : 2 < w → b2 = c2) (h3 : 3 < w → b3 = c3) :
    refN n' b0 c1 c2 c3 = some (r, w) := by
  unfold refN at h ⊢
  by_cases x0 : b0 < 128
  · rw [if_pos x0] at h ⊢; exact h
  rw [if_neg x0] at h ⊢
  by_cases x1 : 192 ≤ b0 ∧ b0 < 224
  · rw [if_pos x1] at h ⊢
    split at h
    · split at h
      · cases h
      · rename_i t q
        obtain ⟨hr, hw⟩ : _ = r ∧ 2 = w := by simpa only [Option.some.injEq, Prod.mk.injEq] using h
        subst hw
        have := h1 (by omega)
        subst this
        rw [if_pos (by omega), if_neg q, hr]
    · cases h
  rw [if_neg x1] at h ⊢
  by_cases x2 : 224 ≤ b0 ∧ b0 < 240
  · rw [if_pos x2] at h ⊢
    split at h
    · split at h
      · cases h
      · rename_i t q
        obtain ⟨hr, hw⟩ : _ = r ∧ 3 = w := by simpa only [Option.some.injEq, Prod.mk.injEq] using h
        subst hw
        have e1 := h1 (by omega)
        have e2 := h2 (by omega)
        subst e1 e2
        rw [if_pos (by omega), if_neg q, hr]
    · cases h
  rw [if_neg x2] at h ⊢
  by_cases x3 : 240 ≤ b0 ∧ b0 < 248
  · rw [if_pos x3] at h ⊢
    split at h
    · split at h
      · cases h
      · rename_i t q
        obtain ⟨hr, hw⟩ : _ = r ∧ 4 = w := by simpa only [Option.some.injEq, Prod.mk.injEq] using h
        subst hw
        have e1 := h1 (by omega)
        have e2 := h2 (by omega)
        have e3 := h3 (by omega)
        subst e1 e2 e3
        rw [if_pos (by omega), if_neg q, hr]
    · cases h
  rw [if_neg x3] at h
  cases h
theorem refAt_some {s : ByteArray} {i : Nat} {d : Nat × Nat} (h : refAt s i = some d) : ¬ bad s i ∧ Utf8.decode s i = d := by
  rw [refAt_eq] at h
  split at h
  · cases h
  · rename_i hb
    exact ⟨hb, Option.some.inj h⟩
theorem dec_prefix (s : ByteArray) (p i : Nat) (hp : p ≤ s.size) (hi : i < s.size) (hb : ¬ bad s i) (hw : i + (Utf8.decode s i).2 ≤ p) :
    ¬ bad (s.extract 0 p) i ∧ Utf8.decode (s.extract 0 p) i = Utf8.decode s i := by
  have e := refAt_eq s i
  rw [if_neg hb] at e
  have hsz := size_extract s 0 p hp
  have hpos := width_pos s i hi
  have hx : ∀ j, i + j < p → by_ s (i + j) = by_ (s.extract 0 p) (i + j) := fun j hj => by rw [by_extract s 0 p (i + j) (by omega), Nat.zero_add]
  apply refAt_some
  generalize Utf8.decode s i = d at *
  obtain ⟨r, k⟩ := d
  simp only [] at hw hpos
  unfold refAt at e ⊢
  have h0 := hx 0 (by omega)
  rw [Nat.add_zero] at h0
  rw [← h0]
  exact refN_mono e (by rw [hsz]; omega) (fun h => hx 1 (by omega)) (fun h => hx 2 (by omega)) (fun h => hx 3 (by omega))
theorem prefix_runes (s : ByteArray) (p : Nat) (hp : p ≤ s.size) : ∀ (m i : Nat) (l : List Nat), i ≤ s.size → rest s i = some l → posAt s i m = p →
    rest (s.extract 0 p) i = some (l.take m) ∧ ∀ n, posAt (s.extract 0 p) i n = posAt s i (min m n)
  | 0, i, l, hi, h, hm => by
    have hsz := size_extract s 0 p hp
    simp only [posAt] at hm
    subst hm
    refine ⟨by rw [rest_end _ _ (by omega)]; simp, fun n => ?_⟩
    cases n with
    | zero => simp [posAt]
    | succ n =>
      rw [Nat.zero_min]
      simp only [posAt]
      rw [if_neg (by omega)]
  | m + 1, i, l, hi, h, hm => by
    have hsz := size_extract s 0 p hp
    by_cases hlt : i < s.size
    · have hb := rest_good h hlt
      have hw := width_pos s i hlt
      have hle := width_le s i hlt hb
      have hp0 := posAt_le s (m + 1) i l hi h
      rw [rest_step s i hlt hb] at h
      obtain ⟨q, hq, rfl⟩ := Option.map_eq_some_iff.1 h
      simp only [posAt] at hm
      rw [if_pos hlt] at hm
      have hp1 := posAt_le s m _ q hle hq
      have hd := dec_prefix s p i hp hlt hb (by omega)
      have ih := prefix_runes s p hp m _ q hle hq hm
      have hit : i < (s.extract 0 p).size := by omega
      refine ⟨?_, fun n => ?_⟩
      · rw [rest_step _ i hit hd.1, hd.2, ih.1]
        simp
      · cases n with
        | zero => simp [posAt]
        | succ n =>
          have e := ih.2 n
          rw [show min (m + 1) (n + 1) = min m n + 1 by omega]
          simp only [posAt]
          rw [if_pos hit, if_pos hlt, hd.2, e]
    · simp only [posAt] at hm
      rw [if_neg hlt] at hm
      subst hm
      rw [rest_end s i hlt] at h
      cases h
      refine ⟨by rw [rest_end _ _ (by omega)]; simp, fun n => ?_⟩
      cases n with
      | zero => simp [posAt]
      | succ n =>
        rw [show min (m + 1) (n + 1) = min m n + 1 by omega]
        simp only [posAt]
        rw [if_neg (by omega), if_neg hlt]
theorem extract_extract (s : ByteArray) (p q : Nat) (h : q ≤ p) : (s.extract 0 p).extract 0 q = s.extract 0 q := by
  apply data_ext
  rw [Lib.extract_data, Lib.extract_data, Lib.extract_data]
  simp only [List.drop_zero, Nat.sub_zero]
  rw [List.take_take, Nat.min_eq_left h]
theorem extract_all (s : ByteArray) : s.extract 0 s.size = s := by
  apply data_ext
  rw [Lib.extract_data, List.drop_zero, Nat.sub_zero]
  exact List.take_of_length_le (by rw [← Lib.size_eq]; exact Nat.le_refl _)

/-! ### the reference's decoder, as its loop goes -/
def tailB (s : ByteArray) (j : Nat) : Bool := decide (j < s.size) && (decide (128 ≤ by_ s j) && decide (by_ s j < 192))
theorem tailB_iff (s : ByteArray) (j : Nat) : tailB s j = true ↔ j < s.size ∧ 128 ≤ by_ s j ∧ by_ s j < 192 := by
  simp only [tailB, Bool.and_eq_true, decide_eq_true_eq]
/-- how many bytes a rune has that begins so (0: none begins so), its least number, and what the first byte tells of it -/
def cls (b : Nat) : Nat := if b < 128 then 1 else if b < 192 then 0 else if b < 224 then 2 else if b < 240 then 3 else if b < 248 then 4 else 0
def least (b : Nat) : Nat := if b < 128 then 0 else if b < 224 then 128 else if b < 240 then 2048 else 65536
def lead (b : Nat) : Nat := if b < 128 then b else if b < 224 then b - 192 else if b < 240 then b - 224 else b - 240
def accN (s : ByteArray) (i c : Nat) : Nat → Nat
  | 0 => c
  | m + 1 => accN s i c m * 64 + by_ s (i + (m + 1)) - 128
theorem accN_pow (s : ByteArray) (i c : Nat) (hc : c < 32) : ∀ m, (∀ j, 1 ≤ j → j ≤ m → tailB s (i + j) = true) → accN s i c m < 32 * 64 ^ m
  | 0, _ => by show c < 32 * 64 ^ 0; rw [Nat.pow_zero]; omega
  | m + 1, h => by
    have ih := accN_pow s i c hc m (fun j h1 h2 => h j h1 (by omega))
    have ht := (tailB_iff _ _).1 (h (m + 1) (by omega) (by omega))
    have hp : 64 ^ (m + 1) = 64 ^ m * 64 := Nat.pow_succ ..
    show accN s i c m * 64 + by_ s (i + (m + 1)) - 128 < _
    rw [hp]
    generalize 64 ^ m = q at *
    omega
theorem accN_lt (s : ByteArray) (i c : Nat) (hc : c < 32) (m : Nat) (hm : m ≤ 3) (h : ∀ j, 1 ≤ j → j ≤ m → tailB s (i + j) = true) : accN s i c m < 8388608 := by
  have h1 := accN_pow s i c hc m h
  have h2 : 64 ^ m ≤ 64 ^ 3 := Nat.pow_le_pow_right (by decide) hm
  have h3 : 64 ^ 3 = 262144 := by decide
  rw [h3] at h2
  generalize 64 ^ m = q at *
  omega
theorem accN_0 (s : ByteArray) (i c : Nat) : accN s i c 0 = c := rfl
theorem accN_1 (s : ByteArray) (i c : Nat) : accN s i c 1 = c * 64 + by_ s (i + 1) - 128 := rfl
theorem accN_2 (s : ByteArray) (i c : Nat) : accN s i c 2 = (c * 64 + by_ s (i + 1) - 128) * 64 + by_ s (i + 2) - 128 := rfl
theorem accN_3 (s : ByteArray) (i c : Nat) : accN s i c 3 = ((c * 64 + by_ s (i + 1) - 128) * 64 + by_ s (i + 2) - 128) * 64 + by_ s (i + 3) - 128 := rfl
def outB (b c : Nat) : Bool := decide (c < least b) || (decide (1114111 < c) || (decide (55296 ≤ c) && decide (c < 57344)))
theorem outB_iff (b c : Nat) : outB b c = true ↔ c < least b ∨ 1114111 < c ∨ (55296 ≤ c ∧ c < 57344) := by
  simp only [outB, Bool.or_eq_true, Bool.and_eq_true, decide_eq_true_eq]
theorem ref_none (s : ByteArray) (i : Nat) (h : cls (by_ s i) = 0) : refAt s i = none := by
  have hb := by_lt s i
  unfold cls at h
  unfold refAt refN
  (repeat' split at h) <;> first | (exfalso; omega) | (rw [if_neg (by omega), if_neg (by omega), if_neg (by omega), if_neg (by omega)])
theorem ref_tail (s : ByteArray) (i j : Nat) (h1 : 1 ≤ j) (h2 : j < cls (by_ s i)) (ht : tailB s (i + j) = false) : refAt s i = none := by
  have hb := by_lt s i
  have ht' : ¬ (i + j < s.size ∧ 128 ≤ by_ s (i + j) ∧ by_ s (i + j) < 192) := fun h => by rw [(tailB_iff _ _).2 h] at ht; cases ht
  unfold cls at h2
  unfold refAt refN
  by_cases c0 : by_ s i < 128
  · rw [if_pos c0] at h2; omega
  rw [if_neg c0] at h2 ⊢
  by_cases c1 : by_ s i < 192
  · rw [if_pos c1] at h2; omega
  rw [if_neg c1] at h2
  by_cases c2 : by_ s i < 224
  · rw [if_pos c2] at h2
    obtain rfl : j = 1 := by omega
    rw [if_pos (by omega), if_neg (by omega)]
  rw [if_neg c2] at h2
  rw [if_neg (by omega)]
  by_cases c3 : by_ s i < 240
  · rw [if_pos c3] at h2
    rw [if_pos (by omega), if_neg]
    rintro ⟨t1, t2⟩
    rcases (show j = 1 ∨ j = 2 by omega) with rfl | rfl <;> omega
  rw [if_neg c3] at h2
  rw [if_neg (by omega)]
  by_cases c4 : by_ s i < 248
  · rw [if_pos c4] at h2
    rw [if_pos (by omega), if_neg]
    rintro ⟨t1, t2, t3⟩
    rcases (show j = 1 ∨ j = 2 ∨ j = 3 by omega) with rfl | rfl | rfl <;> omega
  rw [if_neg c4] at h2
  omega
theorem cls_1 {b : Nat} (h : b < 128) : cls b = 1 ∧ least b = 0 ∧ lead b = b := by
  unfold cls least lead; rw [if_pos h, if_pos h, if_pos h]; exact ⟨rfl, rfl, rfl⟩
theorem cls_2 {b : Nat} (h : 192 ≤ b ∧ b < 224) : cls b = 2 ∧ least b = 128 ∧ lead b = b - 192 := by
  have h1 : ¬ b < 128 := by omega
  have h2 : ¬ b < 192 := by omega
  unfold cls least lead; rw [if_neg h1, if_neg h2, if_pos h.2, if_neg h1, if_pos h.2, if_neg h1, if_pos h.2]; exact ⟨rfl, rfl, rfl⟩
theorem cls_3 {b : Nat} (h : 224 ≤ b ∧ b < 240) : cls b = 3 ∧ least b = 2048 ∧ lead b = b - 224 := by
  have h1 : ¬ b < 128 := by omega
  have h2 : ¬ b < 192 := by omega
  have h3 : ¬ b < 224 := by omega
  unfold cls least lead; rw [if_neg h1, if_neg h2, if_neg h3, if_pos h.2, if_neg h1, if_neg h3, if_pos h.2, if_neg h1, if_neg h3, if_pos h.2]; exact ⟨rfl, rfl, rfl⟩
theorem cls_4 {b : Nat} (h : 240 ≤ b ∧ b < 248) : cls b = 4 ∧ least b = 65536 ∧ lead b = b - 240 := by
  have h1 : ¬ b < 128 := by omega
  have h2 : ¬ b < 192 := by omega
  have h3 : ¬ b < 224 := by omega
  have h4 : ¬ b < 240 := by omega
  unfold cls least lead; rw [if_neg h1, if_neg h2, if_neg h3, if_neg h4, if_pos h.2, if_neg h1, if_neg h3, if_neg h4, if_neg h1, if_neg h3, if_neg h4]; exact ⟨rfl, rfl, rfl⟩
theorem cls_0 {b : Nat} (h : (128 ≤ b ∧ b < 192) ∨ 248 ≤ b) : cls b = 0 := by
  unfold cls
  rw [if_neg (by omega)]
  by_cases h2 : b < 192
  · rw [if_pos h2]
  · rw [if_neg h2, if_neg (by omega), if_neg (by omega), if_neg (by omega)]
theorem ref_end (s : ByteArray) (i : Nat) (hc : 1 ≤ cls (by_ s i)) (ht : ∀ j, 1 ≤ j → j ≤ cls (by_ s i) - 1 → tailB s (i + j) = true) :
    refAt s i = if outB (by_ s i) (accN s i (lead (by_ s i)) (cls (by_ s i) - 1)) = true then none else some (accN s i (lead (by_ s i)) (cls (by_ s i) - 1), cls (by_ s i)) := by
  have hb := by_lt s i
  have key : ∀ (c k : Nat) (o : Option (Nat × Nat)), ((c < least (by_ s i) ∨ 1114111 < c ∨ (55296 ≤ c ∧ c < 57344)) → o = none) → (¬ (c < least (by_ s i) ∨ 1114111 < c ∨ (55296 ≤ c ∧ c < 57344)) → o = some (c, k)) →
      o = if outB (by_ s i) c = true then none else some (c, k) := by
    intro c k o h1 h2
    by_cases h : outB (by_ s i) c = true
    · rw [if_pos h]; exact h1 ((outB_iff _ _).1 h)
    · rw [if_neg h]; exact h2 (fun h' => h ((outB_iff _ _).2 h'))
  refine key _ _ _ ?_ ?_
  all_goals
    intro hr
    unfold refAt refN
    rcases (show by_ s i < 128 ∨ ((128 ≤ by_ s i ∧ by_ s i < 192) ∨ 248 ≤ by_ s i) ∨ (192 ≤ by_ s i ∧ by_ s i < 224) ∨ (224 ≤ by_ s i ∧ by_ s i < 240) ∨ (240 ≤ by_ s i ∧ by_ s i < 248) by omega) with c | c | c | c | c
    · obtain ⟨e1, e2, e3⟩ := cls_1 c
      rw [e1, e3, e2] at hr
      rw [accN_0] at hr
      first
        | (exfalso; omega)
        | (rw [if_pos c, e1, e3]; rfl)
    · rw [cls_0 c] at hc; omega
    · obtain ⟨e1, e2, e3⟩ := cls_2 c
      rw [e1, e3, e2] at hr
      rw [accN_1] at hr
      rw [e1] at ht
      have h1 := (tailB_iff _ _).1 (ht 1 (by omega) (by omega))
      rw [if_neg (by omega), if_pos c, if_pos (by omega)]
      first
        | rw [if_pos (by omega)]
        | (rw [if_neg (by omega), e1, e3]; rfl)
    · obtain ⟨e1, e2, e3⟩ := cls_3 c
      rw [e1, e3, e2] at hr
      rw [accN_2] at hr
      rw [e1] at ht
      have h1 := (tailB_iff _ _).1 (ht 1 (by omega) (by omega))
      have h2 := (tailB_iff _ _).1 (ht 2 (by omega) (by omega))
      rw [if_neg (by omega), if_neg (by omega), if_pos c, if_pos (by omega)]
      first
        | rw [if_pos (by omega)]
        | (rw [if_neg (by omega), e1, e3]; rfl)
    · obtain ⟨e1, e2, e3⟩ := cls_4 c
      rw [e1, e3, e2] at hr
      rw [accN_3] at hr
      rw [e1] at ht
      have h1 := (tailB_iff _ _).1 (ht 1 (by omega) (by omega))
      have h2 := (tailB_iff _ _).1 (ht 2 (by omega) (by omega))
      have h3 := (tailB_iff _ _).1 (ht 3 (by omega) (by omega))
      rw [if_neg (by omega), if_neg (by omega), if_neg (by omega), if_pos c, if_pos (by omega)]
      first
        | rw [if_pos (by omega)]
        | (rw [if_neg (by omega), e1, e3]; rfl)
/-- what the loop's ends tell of the runes -/
theorem rest_refused (s : ByteArray) (i : Nat) (hi : i < s.size) (h : refAt s i = none) : rest s i = none := by
  rw [refAt_eq] at h
  split at h
  · rename_i hb; exact rest_bad s i hi hb
  · cases h
theorem rest_taken (s : ByteArray) (i r k : Nat) (hi : i < s.size) (h : refAt s i = some (r, k)) : rest s i = (rest s (i + k)).map (r :: ·) ∧ i + k ≤ s.size ∧ 1 ≤ k := by
  obtain ⟨hb, hd⟩ := refAt_some h
  have h1 := width_le s i hi hb
  have h2 := width_pos s i hi
  have h3 := rest_step s i hi hb
  rw [hd] at h1 h2 h3
  exact ⟨h3, h1, h2⟩

#print axioms posAt_all
#print axioms refN_eq
end Utf
end Go.Proofs.Ytbbbdhpihcbmmaa
