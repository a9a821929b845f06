/- The reference's Do, whole. -/
import Derived.Test.YtbbbdhpihcbmmaaPRDo3
import Derived.Test.YtbbbdhpihcbmmaaGRDo1
import Derived.Test.YtbbbdhpihcbmmaaPDo4
namespace Go.Proofs.Ytbbbdhpihcbmmaa
open Go.RowKit Own

theorem read_same (b : List UInt8) (q p : Nat) : (b.drop (min q b.length)).take (min p (b.length - min q b.length)) = (b.drop q).take p := by
  by_cases h : q ≤ b.length
  · rw [Nat.min_eq_left h]
    by_cases h2 : p ≤ b.length - q
    · rw [Nat.min_eq_left h2]
    · rw [Nat.min_eq_right (by omega), List.take_of_length_le (by simp), List.take_of_length_le (by simp; omega)]
  · rw [Nat.min_eq_right (by omega), List.drop_of_length_le (by omega), List.drop_of_length_le (by omega)]; simp

theorem rdo_any (c : CallIn) (dv bv : Value) (has : Bool) (b : List UInt8) (w : World) (hd : ReadsB w dv c.d) (hb : ReadsB w bv b) (hbl : b.length ≤ 4096) (hs : c.s.size ≤ 1048576) (ha : c.a ≤ 9223372036854775807) :
    Calls Try.prog 11 #[callV c dv, .agg #[.bool has, bv]] w (RDoPost (doR c has b) w) := by
  obtain ⟨k, s, a, d, n⟩ := c
  simp only [callV] at *
  have hbv : ∃ A m cc, bv = .slice A m cc := by obtain ⟨A, cc, h⟩ := hb.slice; exact ⟨A, _, cc, h⟩
  unfold doR
  by_cases hm : MayC ⟨k, s, a, d, n⟩
  · rw [if_neg (by simpa using hm)]
    obtain ⟨m1, m2, m3, m4, m5, m6, m7, m8, m9⟩ := id hm
    simp only [] at m1 m2 m3 m4 m5 m6 m7 m8 m9
    cases has with
    | false =>
      simp only [Bool.false_eq_true, if_false, if_true]
      by_cases h1 : k = 1
      · rw [if_pos h1]
        exact rdo_none_create k s a d n dv bv w hd hbv hs hm (kt 1 h1)
      · rw [if_neg h1]
        exact rdo_none_other k s a d n dv bv w hd hbv hs hm (kb 1 h1)
    | true =>
      simp only [if_true, Bool.true_eq_false, if_false]
      by_cases h1 : k = 1
      · rw [if_pos h1]
        exact rdo_some_create k s a d n dv bv b w hd hb hbl hs hm (kt 1 h1)
      rw [if_neg h1]
      have k1 := kb (k := k) 1 h1
      obtain ⟨q, rfl⟩ := Int.eq_ofNat_of_zero_le m4
      obtain ⟨p, rfl⟩ := Int.eq_ofNat_of_zero_le m5
      by_cases h2 : k = 2
      · rw [if_pos (.inl h2), if_neg (by omega)]
        simp only [Int.toNat_natCast]
        cases hw : writtenR b q d with
        | none => exact rdo_write_no k s q d p dv bv b w hd hb hbl hs hm k1 (kt 2 h2) q rfl (by omega) hw
        | some o => exact rdo_write_yes k s q d p dv bv b w hd hb hbl hs hm k1 (kt 2 h2) o q rfl (by omega) hw
      have k2 := kb (k := k) 2 h2
      by_cases h3 : k = 3
      · rw [if_pos (.inr h3), if_pos h3]
        cases hw : writtenR b b.length d with
        | none => exact rdo_append_no k s q d p dv bv b w hd hb hbl hs hm k1 k2 (kt 3 h3) hw
        | some o => exact rdo_append_yes k s q d p dv bv b w hd hb hbl hs hm k1 k2 (kt 3 h3) o hw
      have k3 := kb (k := k) 3 h3
      rw [if_neg (by omega)]
      by_cases h4 : k = 4
      · rw [if_pos h4]
        by_cases h5 : (4096 : Int) < (p : Int)
        · rw [if_pos h5]
          exact rdo_trunc_no k s q d p dv bv b w hd hb hbl hs hm k1 k2 k3 (kt 4 h4) h5
        · rw [if_neg h5]
          exact rdo_trunc k s q d p dv bv b w hd hb hbl hs hm k1 k2 k3 (kt 4 h4) p rfl (by omega)
      have k4 := kb (k := k) 4 h4
      rw [if_neg h4]
      by_cases h5 : k = 5
      · rw [if_pos h5]
        simp only [Int.toNat_natCast]
        rw [read_same]
        exact rdo_read k s q d p dv bv b w hd hb hbl hs hm k1 k2 k3 k4 (kt 5 h5) q p rfl rfl
      have k5 := kb (k := k) 5 h5
      rw [if_neg h5]
      by_cases h6 : k = 6
      · rw [if_pos h6]
        exact rdo_stat k s q d p dv bv b w hd hb hbl hs hm k1 k2 k3 k4 k5 (kt 6 h6)
      rw [if_neg h6]
      exact rdo_else k s q d p dv bv b w hd hb hbl hs hm k1 k2 k3 k4 k5 (kb 6 h6)
  · rw [if_pos (by simpa using hm)]
    cases has with
    | false => exact rdo_none_bad k s a d n dv bv w hd hbv hs hm
    | true => exact rdo_some_bad k s a d n dv bv b w hd hb hbl hs hm
end Go.Proofs.Ytbbbdhpihcbmmaa
