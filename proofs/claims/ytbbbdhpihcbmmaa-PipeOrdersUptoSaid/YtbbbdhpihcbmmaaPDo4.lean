/- pipe's Do, whole: what it tells of any call, and what is behind it. -/
import Derived.Test.YtbbbdhpihcbmmaaPDo3
namespace Go.Proofs.Ytbbbdhpihcbmmaa
open Go.RowKit Own

theorem kb {k : Int} (i : Int) (h : k ≠ i) : (k == i) = false := beq_eq_false_iff_ne.2 h
theorem kt {k : Int} (i : Int) (h : k = i) : (k == i) = true := beq_iff_eq.2 h

theorem do_read (k : Int) (s : ByteArray) (q : Nat) (d : List UInt8) (p : Nat) (dv bv : Value) (b : List UInt8) (w : World) (hd : ReadsB w dv d) (hb : ReadsB w bv b) (hcap : ∀ A n c, bv = .slice A n c → n ≤ c) (hbl : b.length ≤ 4096) (hs : s.size ≤ 140737488351232) (hm : MayC ⟨k, s, q, d, p⟩) (hk : k = 5) :
    Calls Try.prog 7 #[.agg #[.int .i64 k, .string s, .int .i64 q, dv, .int .i64 p], .bool true, bv] w (DoPost ⟨0, 0, (b.drop (min q b.length)).take (min p (b.length - min q b.length)), true, b⟩ w) := by
  have hk1 := kb (k := k) 1 (by omega)
  have hk2 := kb (k := k) 2 (by omega)
  have hk3 := kb (k := k) 3 (by omega)
  have hk4 := kb (k := k) 4 (by omega)
  have hk5 := kt (k := k) 5 hk
  have hwl : IntKind.i64.wrap (b.length : Int) = (b.length : Int) := by rw [IntKind.wrap_i64]; omega
  rcases hb with ⟨rfl, rfl⟩ | ⟨A, cb, rfl, hc⟩
  · have e : ((([] : List UInt8).drop (min q ([] : List UInt8).length)).take (min p (([] : List UInt8).length - min q ([] : List UInt8).length))) = [] := by simp
    rw [e]
    by_cases h1 : q = 0 <;> by_cases h2 : p = 0
    · subst h1; subst h2; exact do_read_nil_zero_few k s d dv w hd hs hm hk1 hk2 hk3 hk4 hk5
    · subst h1; exact do_read_nil_zero_all k s d p dv w hd hs hm hk1 hk2 hk3 hk4 hk5 (by omega)
    · subst h2; exact do_read_nil_some_few k s q d dv w hd hs hm hk1 hk2 hk3 hk4 hk5 (by omega)
    · exact do_read_nil_some_all k s q d p dv w hd hs hm hk1 hk2 hk3 hk4 hk5 (by omega) (by omega)
  · have hb : ReadsB w (.slice (some A) b.length cb) b := .inr ⟨A, cb, rfl, hc⟩
    have hcb := hcap _ _ _ rfl
    have hend : b.length ≤ q → (b.drop (min q b.length)).take (min p (b.length - min q b.length)) = [] := fun h => by
      rw [show min q b.length = b.length by omega]; simp
    by_cases h1 : q < b.length
    · have hmin : min q b.length = q := by omega
      rw [hmin]
      have hr : IntKind.i64.wrap ((b.length : Int) - (q : Int)) = ((b.length - q : Nat) : Int) := by rw [IntKind.wrap_i64]; omega
      have hsub : ∀ (m : Nat) W, m ≤ b.length - q → Below w.heap.size w W → ReadsB W (.slice (some (A.add q)) m (cb - q)) ((b.drop q).take m) := fun m W hm2 hW => by
        refine .inr ⟨A.add q, cb - q, by rw [List.length_take, List.length_drop, show min m (b.length - q) = m by omega], fun j u hu => ?_⟩
        have hu2 : (u8s b)[q + j]? = some u := by
          have : u8s ((b.drop q).take m) = ((u8s b).drop q).take m := by simp [u8s]
          rw [this, List.getElem?_take] at hu
          split at hu
          · rw [List.getElem?_drop] at hu; exact hu
          · cases hu
        have h3 := hc (q + j) u hu2
        rw [Addr.add_add]
        exact (hW.cell (World.block_lt_of_cell? w _ h3)).trans h3
      by_cases h2 : b.length - q < p
      · rw [show min p (b.length - q) = b.length - q by omega]
        exact do_read_in_all k s q d p dv b w A cb hd hb hbl hs hm hk1 hk2 hk3 hk4 hk5 (by omega) (b.length - q) hr (by omega) b.length (by rw [IntKind.wrap_i64]; omega) (by omega) (by omega) rfl hcb (by omega) (fun W hW => hsub _ W (Nat.le_refl _) hW)
      · rw [show min p (b.length - q) = p by omega]
        exact do_read_in_few k s q d p dv b w A cb hd hb hbl hs hm hk1 hk2 hk3 hk4 hk5 (by omega) (b.length - q) hr (by omega) (q + p) (by rw [IntKind.wrap_i64]; omega) (by omega) (by omega) (by omega) hcb (by omega) (fun W hW => hsub _ W (by omega) hW)
    · rw [hend (by omega)]
      by_cases hf : cb = b.length
      · subst hf
        by_cases h3 : q = b.length <;> by_cases h2 : p = 0
        · subst h3; subst h2; exact do_read_end_few_full k s d dv b w A hd hb hbl hs hm hk1 hk2 hk3 hk4 hk5 hwl
        · subst h3; exact do_read_end_all_full k s d p dv b w A hd hb hbl hs hm hk1 hk2 hk3 hk4 hk5 hwl (by omega)
        · subst h2; exact do_read_out_few_full k s q d dv b w A hd hb hbl hs hm hk1 hk2 hk3 hk4 hk5 hwl (by omega)
        · exact do_read_out_all_full k s q d p dv b w A hd hb hbl hs hm hk1 hk2 hk3 hk4 hk5 hwl (by omega) (by omega)
      · by_cases h3 : q = b.length <;> by_cases h2 : p = 0
        · subst h3; subst h2; exact do_read_end_few_past k s d dv b w A cb hd hb hbl hs hm hk1 hk2 hk3 hk4 hk5 hwl hcb hf
        · subst h3; exact do_read_end_all_past k s d p dv b w A cb hd hb hbl hs hm hk1 hk2 hk3 hk4 hk5 hwl (by omega) hcb hf
        · subst h2; exact do_read_out_few_past k s q d dv b w A cb hd hb hbl hs hm hk1 hk2 hk3 hk4 hk5 hwl (by omega) hcb hf
        · exact do_read_out_all_past k s q d p dv b w A cb hd hb hbl hs hm hk1 hk2 hk3 hk4 hk5 hwl (by omega) (by omega) hcb hf

theorem do_any (c : CallIn) (dv bv : Value) (has : Bool) (b : List UInt8) (w : World) (hd : ReadsB w dv c.d) (hb : ReadsB w bv b) (hcap : ∀ A n k, bv = .slice A n k → n ≤ k) (hbl : b.length ≤ 4096) (hs : c.s.size ≤ 140737488351232) (ha : c.a ≤ 9223372036854775807) :
    Calls Try.prog 7 #[callV c dv, .bool has, bv] w (DoPost (doR c has b) w) := by
  obtain ⟨k, s, a, d, n⟩ := c
  simp only [callV] at *
  unfold doR
  by_cases hm : MayC ⟨k, s, a, d, n⟩
  · rw [if_neg (by simpa using hm)]
    obtain ⟨m1, m2, m3, m4, m5, m6, m7, m8, m9⟩ := id hm
    simp only [] at m1 m2 m3 m4 m5 m6 m7 m8 m9
    cases has with
    | false =>
      simp only [Bool.false_eq_true, if_false, if_true]
      by_cases h1 : k = 1
      · rw [if_pos h1]
        exact do_none_create k s a d n dv bv w hd hs hm (kt 1 h1)
      · rw [if_neg h1]
        exact do_none_other k s a d n dv bv w hd hs hm (kb 1 h1)
    | true =>
      simp only [if_true, Bool.true_eq_false, if_false]
      by_cases h1 : k = 1
      · rw [if_pos h1]
        exact do_some_create k s a d n dv bv b w hd hb hbl hs hm (kt 1 h1)
      rw [if_neg h1]
      have k1 := kb (k := k) 1 h1
      obtain ⟨q, rfl⟩ := Int.eq_ofNat_of_zero_le m4
      obtain ⟨p, rfl⟩ := Int.eq_ofNat_of_zero_le m5
      by_cases h2 : k = 2
      · rw [if_pos (.inl h2), if_neg (by omega)]
        simp only [Int.toNat_natCast]
        cases hw : writtenR b q d with
        | none => exact do_write_no k s q d p dv bv b w hd hb hbl hs hm k1 (kt 2 h2) q rfl (by omega) hw
        | some o => exact do_write_yes k s q d p dv bv b w hd hb hbl hs hm k1 (kt 2 h2) o q rfl (by omega) hw
      have k2 := kb (k := k) 2 h2
      by_cases h3 : k = 3
      · rw [if_pos (.inr h3), if_pos h3]
        cases hw : writtenR b b.length d with
        | none => exact do_append_no k s q d p dv bv b w hd hb hbl hs hm k1 k2 (kt 3 h3) hw
        | some o => exact do_append_yes k s q d p dv bv b w hd hb hbl hs hm k1 k2 (kt 3 h3) o hw
      have k3 := kb (k := k) 3 h3
      rw [if_neg (by omega)]
      by_cases h4 : k = 4
      · rw [if_pos h4]
        by_cases h5 : (4096 : Int) < (p : Int)
        · rw [if_pos h5]
          exact do_trunc_no k s q d p dv bv b w hd hb hbl hs hm k1 k2 k3 (kt 4 h4) h5
        · rw [if_neg h5]
          exact do_trunc_yes k s q d p dv bv b w hd hb hbl hs hm k1 k2 k3 (kt 4 h4) p rfl (by omega)
      have k4 := kb (k := k) 4 h4
      rw [if_neg h4]
      by_cases h5 : k = 5
      · rw [if_pos h5]
        exact do_read k s q d p dv bv b w hd hb hcap hbl hs hm h5
      have k5 := kb (k := k) 5 h5
      rw [if_neg h5]
      by_cases h6 : k = 6
      · rw [if_pos h6]
        exact do_stat k s q d p dv bv b w hd hb hbl hs hm k1 k2 k3 k4 k5 (kt 6 h6)
      rw [if_neg h6]
      exact do_else k s q d p dv bv b w hd hb hbl hs hm k1 k2 k3 k4 k5 (kb 6 h6)
  · rw [if_pos (by simpa using hm)]
    cases has with
    | false => exact do_none_bad k s a d n dv bv w hd hs hm
    | true => exact do_some_bad k s a d n dv bv b w hd hb hbl hs hm
end Go.Proofs.Ytbbbdhpihcbmmaa
