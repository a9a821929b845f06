/- The walks of name's good, Count and Check: what they answer of any text. -/
import Derived.Test.YtbbbdhpihcbmmaaRows
import Derived.Test.YtbbbdhpihcbmmaaUtf
import Derived.WalkKit
import Derived.WalkSpells
import Derived.Lib.OthersKept
import Derived.Lib.Hide
namespace Go.Proofs.Ytbbbdhpihcbmmaa
open Go.RowKit

open Utf

theorem pre_any (t : ByteArray) (w : World) :
    Calls Try.prog 42 #[.string t, .string ⟨#[239, 191, 189]⟩] w fun e w' => e = .returned (.bool (pre3 t)) ∧ w = w' := by
  have hz : (⟨#[239, 191, 189]⟩ : ByteArray).size = 3 := rfl
  by_cases h : 3 ≤ t.size
  all_goals
    go_enter Try.func42, Try.ntmps42
    go_wp2
    go_ret
    exact ⟨by simp [pre3, h], rfl⟩

theorem good_any (s : ByteArray) (w : World) :
    Calls Try.prog 41 #[.string s] w fun e w' => e = .returned (.bool (runes s).isSome) ∧ Below w.heap.size w w' := by
  go_enter Try.func41, Try.ntmps41
  go_wp2_with fail
  go_loopw [] (fun wr => ∃ pos : Nat, wr = w.iter s pos ∧ pos ≤ s.size ∧ Hid ((rest s pos).isSome = (runes s).isSome)) (fun wr => s.size - wr.iterPos w.heap.size)
  case atStart => exact ⟨0, rfl, Nat.zero_le _, rfl⟩
  case round =>
    obtain ⟨pos, rfl, hpos, HS⟩ := hrel
    by_cases hp : pos < s.size
    · have hnx : ∀ ty, (Instr.next (.pointer (some ⟨w.heap.size, 0, none⟩)) true ty).run Try.prog (w.iter s pos) = _ := fun ty => run_next_any w s pos ty hp
      have hwd := width_pos s pos hp
      by_cases hb : bad s pos
      · have hrb := rest_bad s pos hp hb
        have hpre := pre3_bad s pos hb
        have hr' : (((Utf8.decode s pos).1 : Int) == 65533) = true := by rw [show Utf8.decode s pos = (65533, 1) from hb]; rfl
        have HB := Lib.hid hb
        have HR : Hid ((runes s).isSome = false) := by rw [← HS.out, hrb]; rfl
        clear hb hrb HS
        go_wp2_with (go_at_call 42; refine (pre_any _ _).mono ?_; rintro e w' ⟨rfl, rfl⟩)
        go_ret
        exact ⟨by rw [HR.out]; rfl, (Below.refl _ _).alloc (Nat.le_refl _) _⟩
      · have hstep := rest_step s pos hp hb
        have hle := width_le s pos hp hb
        have HR : Hid ((rest s (pos + (Utf8.decode s pos).2)).isSome = (runes s).isSome) := by rw [← HS.out, hstep]; cases rest s (pos + (Utf8.decode s pos).2) <;> rfl
        by_cases hr : (Utf8.decode s pos).1 = 65533
        · have hpre := pre3_good s pos hb hr
          have hr' : (((Utf8.decode s pos).1 : Int) == 65533) = true := by rw [hr]; rfl
          clear hr hb hstep HS
          go_wp2_with (go_at_call 42; refine (pre_any _ _).mono ?_; rintro e w' ⟨rfl, rfl⟩)
          go_roundw
          case rel => exact ⟨_, rfl, hle, HR⟩
          case measure => simp; omega
        · have hr' : (((Utf8.decode s pos).1 : Int) == 65533) = false := by simp; omega
          clear hr hb hstep HS
          go_wp2_with fail
          go_roundw
          case rel => exact ⟨_, rfl, hle, HR⟩
          case measure => simp; omega
    · have hnx : ∀ ty, (Instr.next (.pointer (some ⟨w.heap.size, 0, none⟩)) true ty).run Try.prog (w.iter s pos) = _ := fun ty => run_next_end w s pos ty hp
      have HR : Hid ((runes s).isSome = true) := by rw [← HS.out, rest_end s pos hp]; rfl
      clear HS
      go_wp2_with fail
      go_ret
      exact ⟨by rw [HR.out]; rfl, (Below.refl _ _).alloc (Nat.le_refl _) _⟩

/-- how many runes; false: no UTF-8 -/
def countN (s : ByteArray) : Int := match runes s with | some l => (l.length : Int) | none => 0
theorem countN_bound (s : ByteArray) : 0 ≤ countN s ∧ countN s ≤ s.size := by
  unfold countN
  cases h : runes s with
  | none => simp only []; omega
  | some l => have := rest_length s 0 l (Nat.zero_le _) h; simp only []; omega

theorem count_any (s : ByteArray) (w : World) (hs : s.size ≤ 140737488351232) :
    Calls Try.prog 38 #[.string s] w fun e w' => e = .returned (.tuple #[.int .i64 (countN s), .bool (runes s).isSome]) ∧ Below w.heap.size w w' := by
  cases hg : (runes s).isSome with
  | false =>
    have hc : countN s = 0 := by unfold countN; cases h : runes s with | none => rfl | some l => rw [h] at hg; cases hg
    have HC := Lib.hid hc
    have hG := good_any s w
    rw [hg] at hG
    clear hc hg
    go_enter Try.func38, Try.ntmps38
    go_wp2_with (go_at_call 41; refine hG.mono ?_; rintro e w1 ⟨rfl, hb1⟩)
    go_ret2
    exact ⟨by rw [HC.out]; rfl, hb1⟩
  | true =>
    obtain ⟨l, hl⟩ := Option.isSome_iff_exists.1 hg
    have hc : countN s = l.length := by unfold countN; rw [hl]
    have HC := Lib.hid hc
    have hG := good_any s w
    rw [hg] at hG
    have HL := Lib.hid hl
    clear hc hg hl
    go_enter Try.func38, Try.ntmps38
    go_wp2_with (go_at_call 41; refine hG.mono ?_; rintro e w1 ⟨rfl, hb1⟩)
    go_loopw [4] (fun n wr => ∃ (pos k : Nat), wr = w1.iter s pos ∧ n = .int .i64 k ∧ pos ≤ s.size ∧ k ≤ pos ∧ Hid (∃ r, rest s pos = some r ∧ k + r.length = l.length)) (fun _ wr => s.size - wr.iterPos w1.heap.size)
    case atStart => exact ⟨0, 0, rfl, rfl, Nat.zero_le _, Nat.zero_le _, l, HL.out, Nat.zero_add _⟩
    case round =>
      obtain ⟨pos, k, rfl, rfl, hpos, hk, HS⟩ := hrel
      by_cases hp : pos < s.size
      · have hnx : ∀ ty, (Instr.next (.pointer (some ⟨w1.heap.size, 0, none⟩)) true ty).run Try.prog (w1.iter s pos) = _ := fun ty => run_next_any w1 s pos ty hp
        have hwd := width_pos s pos hp
        obtain ⟨r, hr, hn⟩ := HS.out
        have hb := rest_good hr hp
        have hle := width_le s pos hp hb
        have HR : Hid (∃ r, rest s (pos + (Utf8.decode s pos).2) = some r ∧ (k + 1) + r.length = l.length) := by
          rw [rest_step s pos hp hb] at hr
          obtain ⟨q, hq, rfl⟩ := Option.map_eq_some_iff.1 hr
          exact ⟨q, hq, by rw [← hn]; simp only [List.length_cons]; omega⟩
        clear hr hn hb HS
        go_wp2_with fail
        go_roundw
        case rel => exact ⟨_, k + 1, rfl, by go_num, hle, by omega, HR⟩
        case measure => simp; omega
      · have hnx : ∀ ty, (Instr.next (.pointer (some ⟨w1.heap.size, 0, none⟩)) true ty).run Try.prog (w1.iter s pos) = _ := fun ty => run_next_end w1 s pos ty hp
        have HE : Hid (k = l.length) := by
          show k = l.length
          obtain ⟨r, hr, hn⟩ := HS.out
          rw [rest_end s pos hp] at hr
          cases hr
          simpa using hn
        clear HS
        go_wp2_with fail
        go_ret2
        exact ⟨by rw [HC.out, ← HE.out]; rfl, hb1.alloc hb1.size _⟩

/-- may a name have this rune? -/
def rough (r : Nat) : Bool := decide (r < 32) || (r == 127) || (r == 47) || (r == 65533)
def checkE (s : ByteArray) : Int :=
  match runes s with
  | none => 5
  | some l => if 64 < l.length then 3 else if l = [] ∨ l.head? = some 32 ∨ l.getLast? = some 32 then 1 else if l.any rough then 1 else 0

theorem check_any (s : ByteArray) (w : World) (hs : s.size ≤ 140737488351232) :
    Calls Try.prog 29 #[.string s] w fun e w' => e = .returned (.int .i64 (checkE s)) ∧ Below w.heap.size w w' := by
  have hC := count_any s w hs
  cases hl : runes s with
  | none =>
    have HV : Hid (checkE s = 5) := by show _ = _; unfold checkE; rw [hl]
    rw [show countN s = 0 by unfold countN; rw [hl], hl] at hC
    clear hl
    go_enter Try.func29, Try.ntmps29
    go_wp2_with (go_at_call 38; refine hC.mono ?_; rintro e w1 ⟨rfl, hb1⟩)
    go_ret
    exact ⟨by rw [HV.out]; rfl, hb1⟩
  | some l =>
    have hll := rest_length s 0 l (Nat.zero_le _) hl
    rw [show countN s = l.length by unfold countN; rw [hl], hl] at hC
    by_cases h64 : 64 < l.length
    · have HV : Hid (checkE s = 3) := by show _ = _; unfold checkE; rw [hl]; simp only []; rw [if_pos h64]
      clear hl
      go_enter Try.func29, Try.ntmps29
      go_wp2_with (go_at_call 38; refine hC.mono ?_; rintro e w1 ⟨rfl, hb1⟩)
      go_ret
      exact ⟨by rw [HV.out]; rfl, hb1⟩
    by_cases h0 : l.length = 0
    · obtain rfl := List.eq_nil_of_length_eq_zero h0
      have HV : Hid (checkE s = 1) := by show _ = _; unfold checkE; rw [hl]; simp
      clear hl
      go_enter Try.func29, Try.ntmps29
      go_wp2_with (go_at_call 38; refine hC.mono ?_; rintro e w1 ⟨rfl, hb1⟩)
      go_ret
      exact ⟨by rw [HV.out]; rfl, hb1⟩
    have h0' : ((l.length : Int) == 0) = false := beq_eq_false_iff_ne.2 (by omega)
    have hs0 : 0 < s.size := by omega
    have hne : l ≠ [] := fun h => h0 (by rw [h]; rfl)
    have hhd := head_32 s l hl hs0
    have hls := last_32 s s.size 0 l (by omega) hl hs0
    by_cases hb0 : by_ s 0 = 32
    · have HV : Hid (checkE s = 1) := by show _ = _; unfold checkE; rw [hl]; simp only []; rw [if_neg h64, if_pos (.inr (.inl (hhd.2 hb0)))]
      have hx : (((s[0]'hs0).toNat : Int) == 32) = true := beq_iff_eq.2 (by have := by_at s 0 hs0; omega)
      clear hl hb0 hhd hls h0 hne
      go_enter Try.func29, Try.ntmps29
      go_wp2_with (go_at_call 38; refine hC.mono ?_; rintro e w1 ⟨rfl, hb1⟩)
      go_ret
      exact ⟨by rw [HV.out]; rfl, hb1⟩
    have hx : (((s[0]'hs0).toNat : Int) == 32) = false := beq_eq_false_iff_ne.2 (by have := by_at s 0 hs0; omega)
    have hs1 : s.size - 1 < s.size := by omega
    by_cases hb1 : by_ s (s.size - 1) = 32
    · have HV : Hid (checkE s = 1) := by show _ = _; unfold checkE; rw [hl]; simp only []; rw [if_neg h64, if_pos (.inr (.inr (hls.2 hb1)))]
      have hy : (((s[s.size - 1]'hs1).toNat : Int) == 32) = true := beq_iff_eq.2 (by have := by_at s _ hs1; omega)
      clear hl hb0 hhd hls h0 hne hb1
      go_enter Try.func29, Try.ntmps29
      go_wp2_with (go_at_call 38; refine hC.mono ?_; rintro e w1 ⟨rfl, hb1⟩)
      go_ret
      exact ⟨by rw [HV.out]; rfl, hb1⟩
    have hy : (((s[s.size - 1]'hs1).toNat : Int) == 32) = false := beq_eq_false_iff_ne.2 (by have := by_at s _ hs1; omega)
    have HV : Hid (checkE s = if l.any rough then 1 else 0) := by
      show _ = _
      unfold checkE; rw [hl]; simp only []; rw [if_neg h64, if_neg]
      rintro (h | h | h)
      · exact hne h
      · exact hb0 (hhd.1 h)
      · exact hb1 (hls.1 h)
    have HL := Lib.hid hl
    clear hl hb0 hhd hls h0 hne hb1
    go_enter Try.func29, Try.ntmps29
    go_wp2_with (go_at_call 38; refine hC.mono ?_; rintro e w1 ⟨rfl, hb1⟩)
    go_loopw [] (fun wr => ∃ pos : Nat, wr = w1.iter s pos ∧ pos ≤ s.size ∧ Hid (∃ r, rest s pos = some r ∧ r.any rough = l.any rough)) (fun wr => s.size - wr.iterPos w1.heap.size)
    case atStart => exact ⟨0, rfl, Nat.zero_le _, l, HL.out, rfl⟩
    case round =>
      obtain ⟨pos, rfl, hpos, HS⟩ := hrel
      by_cases hp : pos < s.size
      · have hnx : ∀ ty, (Instr.next (.pointer (some ⟨w1.heap.size, 0, none⟩)) true ty).run Try.prog (w1.iter s pos) = _ := fun ty => run_next_any w1 s pos ty hp
        have hwd := width_pos s pos hp
        obtain ⟨r, hr, hn⟩ := HS.out
        have hb := rest_good hr hp
        have hle := width_le s pos hp hb
        have HR : Hid (∃ q, rest s (pos + (Utf8.decode s pos).2) = some q ∧ (rough (Utf8.decode s pos).1 || q.any rough) = l.any rough) := by
          rw [rest_step s pos hp hb] at hr
          obtain ⟨q, hq, rfl⟩ := Option.map_eq_some_iff.1 hr
          exact ⟨q, hq, by rw [← hn, List.any_cons]⟩
        clear hr hn hb HS
        by_cases hro : rough (Utf8.decode s pos).1 = true
        · have HE : Hid (l.any rough = true) := by
            obtain ⟨q, _, hq⟩ := HR.out
            rw [← hq, hro]; rfl
          have HO := Lib.hid hro
          clear hro HR
          by_cases c1 : ((Utf8.decode s pos).1 : Int) < 32
          · go_wp2_with fail
            go_ret
            exact ⟨by rw [HV.out, HE.out]; rfl, hb1.alloc hb1.size _⟩
          · by_cases c2 : ((Utf8.decode s pos).1 : Int) = 127
            · have c2' : (((Utf8.decode s pos).1 : Int) == 127) = true := beq_iff_eq.2 c2
              clear c2
              go_wp2_with fail
              go_ret
              exact ⟨by rw [HV.out, HE.out]; rfl, hb1.alloc hb1.size _⟩
            · have c2' : (((Utf8.decode s pos).1 : Int) == 127) = false := beq_eq_false_iff_ne.2 c2
              by_cases c3 : ((Utf8.decode s pos).1 : Int) = 47
              · have c3' : (((Utf8.decode s pos).1 : Int) == 47) = true := beq_iff_eq.2 c3
                clear c2 c3
                go_wp2_with fail
                go_ret
                exact ⟨by rw [HV.out, HE.out]; rfl, hb1.alloc hb1.size _⟩
              · have c3' : (((Utf8.decode s pos).1 : Int) == 47) = false := beq_eq_false_iff_ne.2 c3
                have c4' : (((Utf8.decode s pos).1 : Int) == 65533) = true := beq_iff_eq.2 (by
                  have := HO.out
                  simp only [rough, Bool.or_eq_true, decide_eq_true_eq, beq_iff_eq] at this
                  omega)
                clear c2 c3
                go_wp2_with fail
                go_ret
                exact ⟨by rw [HV.out, HE.out]; rfl, hb1.alloc hb1.size _⟩
        · have hro' : rough (Utf8.decode s pos).1 = false := by simpa using hro
          have HR2 : Hid (∃ q, rest s (pos + (Utf8.decode s pos).2) = some q ∧ q.any rough = l.any rough) := by
            obtain ⟨q, h1, h2⟩ := HR.out
            exact ⟨q, h1, by rw [← h2, hro']; rfl⟩
          simp only [rough, Bool.or_eq_false_iff, decide_eq_false_iff_not, beq_eq_false_iff_ne] at hro'
          have c1 : ¬ ((Utf8.decode s pos).1 : Int) < 32 := by omega
          have c2' : (((Utf8.decode s pos).1 : Int) == 127) = false := beq_eq_false_iff_ne.2 (by omega)
          have c3' : (((Utf8.decode s pos).1 : Int) == 47) = false := beq_eq_false_iff_ne.2 (by omega)
          have c4' : (((Utf8.decode s pos).1 : Int) == 65533) = false := beq_eq_false_iff_ne.2 (by omega)
          clear hro hro' HR
          go_wp2_with fail
          go_roundw
          case rel => exact ⟨_, rfl, hle, HR2⟩
          case measure => simp; omega
      · have hnx : ∀ ty, (Instr.next (.pointer (some ⟨w1.heap.size, 0, none⟩)) true ty).run Try.prog (w1.iter s pos) = _ := fun ty => run_next_end w1 s pos ty hp
        have HE : Hid (l.any rough = false) := by
          show _ = _
          obtain ⟨r, hr, hn⟩ := HS.out
          rw [rest_end s pos hp] at hr
          cases hr
          rw [← hn]; rfl
        clear HS
        go_wp2_with fail
        go_ret
        exact ⟨by rw [HV.out, HE.out]; rfl, hb1.alloc hb1.size _⟩
end Go.Proofs.Ytbbbdhpihcbmmaa
