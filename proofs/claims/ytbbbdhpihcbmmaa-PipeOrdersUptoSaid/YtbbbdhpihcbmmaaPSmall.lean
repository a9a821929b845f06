/- pipe's silent, zero, same. -/
import Derived.Test.YtbbbdhpihcbmmaaPReads0
import Derived.Deep.QuietTactic
import Derived.BigQuiet
namespace Go.Proofs.Ytbbbdhpihcbmmaa
open Go.RowKit Own

/-- a reply as it comes in -/
structure RepIn where
  code : Int
  size : Int
  d : List UInt8
def repV (r : RepIn) (v : Value) : Value := .agg #[.int .i64 r.code, .int .i64 r.size, v]
def silentB (r : RepIn) : Bool := (r.code == 0) && ((r.size == 0) && (((r.d.length : Int)) == 0))
def zeroB (c : CallIn) : Bool := (c.k == 0) && ((c.s.toList.isEmpty) && ((c.a == 0) && (((c.d.length : Int) == 0) && (c.n == 0))))
theorem silent_any (r : RepIn) (v : Value) (w : World) (hv : ∃ A m, v = .slice A r.d.length m) : Calls Try.prog 31 #[repV r v] w fun e w' => e = .returned (.bool (silentB r)) ∧ Below w.heap.size w w' := by
  obtain ⟨A, m, rfl⟩ := hv
  obtain ⟨code, size, d⟩ := r
  simp only [repV, silentB]
  have HB : Hid (∀ o, Below w.heap.size w (w.alloc o)) := fun o => (Below.refl _ _).alloc (Nat.le_refl _) o
  generalize d.length = L
  have hcase : (code == 0) = false ∨ ((code == 0) = true ∧ (size == 0) = false) ∨ ((code == 0) = true ∧ (size == 0) = true ∧ ((L : Int) == 0) = false) ∨ ((code == 0) = true ∧ (size == 0) = true ∧ ((L : Int) == 0) = true) := by
    cases (code == 0) <;> cases (size == 0) <;> cases ((L : Int) == 0) <;> simp
  rcases hcase with h1 | ⟨h1, h2⟩ | ⟨h1, h2, h3⟩ | ⟨h1, h2, h3⟩
  all_goals
    go_enter Try.func31, Try.ntmps31
    go_wp2_with fail
    go_ret
    exact ⟨by simp [*], HB.out _⟩

theorem zero_any (c : CallIn) (v : Value) (w : World) (hv : ∃ A m, v = .slice A c.d.length m) : Calls Try.prog 32 #[callV c v] w fun e w' => e = .returned (.bool (zeroB c)) ∧ Below w.heap.size w w' := by
  obtain ⟨A, m, rfl⟩ := hv
  obtain ⟨k, s, a, d, n⟩ := c
  simp only [callV, zeroB]
  have HB : Hid (∀ o, Below w.heap.size w (w.alloc o)) := fun o => (Below.refl _ _).alloc (Nat.le_refl _) o
  generalize d.length = L
  have hcase : (k == 0) = false ∨ ((k == 0) = true ∧ (s.toList.isEmpty) = false) ∨ ((k == 0) = true ∧ (s.toList.isEmpty) = true ∧ (a == 0) = false) ∨ ((k == 0) = true ∧ (s.toList.isEmpty) = true ∧ (a == 0) = true ∧ ((L : Int) == 0) = false) ∨ ((k == 0) = true ∧ (s.toList.isEmpty) = true ∧ (a == 0) = true ∧ ((L : Int) == 0) = true ∧ (n == 0) = false) ∨ ((k == 0) = true ∧ (s.toList.isEmpty) = true ∧ (a == 0) = true ∧ ((L : Int) == 0) = true ∧ (n == 0) = true) := by
    cases (k == 0) <;> cases (s.toList.isEmpty) <;> cases (a == 0) <;> cases ((L : Int) == 0) <;> cases (n == 0) <;> simp
  rcases hcase with h1 | ⟨h1, h2⟩ | ⟨h1, h2, h3⟩ | ⟨h1, h2, h3, h4⟩ | ⟨h1, h2, h3, h4, h5⟩ | ⟨h1, h2, h3, h4, h5⟩
  all_goals
    go_enter Try.func32, Try.ntmps32
    go_wp2_with fail
    go_ret
    exact ⟨by simp [*], HB.out _⟩

/-- slices.Equal of bytes -/
theorem equal_any (u v : Value) (a b : List UInt8) (w : World) (hu : ReadsB w u a) (hv : ReadsB w v b) (ha : a.length ≤ 140737488351232) :
    Calls Try.prog 40 #[u, v] w fun e w' => e = .returned (.bool (a == b)) ∧ Below w.heap.size w w' := by
  obtain ⟨A, ca, rfl⟩ := hu.slice
  obtain ⟨B, cb, rfl⟩ := hv.slice
  by_cases hl : a.length = b.length
  · have h1 : ((a.length : Int) != (b.length : Int)) = false := by rw [hl]; simp
    have HU := Lib.hid hu
    have HV := Lib.hid hv
    have HL := Lib.hid hl
    have hA : (a.length : Int) ≤ 140737488351232 := by omega
    clear hu hv ha hl
    go_enter Try.func40, Try.ntmps40
    go_wp2_with fail
    go_loopw [13] (fun i wr => ∃ j : Nat, i = .int .i64 j ∧ j ≤ a.length ∧ Hid (Below w.heap.size w wr ∧ a.take j = b.take j)) (fun i _ => a.length - (intOf i).toNat)
    case atStart => exact ⟨0, rfl, Nat.zero_le _, Below.refl _ _, by simp⟩
    case round =>
      obtain ⟨j, rfl, hjk, HJ⟩ := hrel
      obtain ⟨wL, rfl⟩ : ∃ wo : World, wo = wr := ⟨_, rfl⟩
      by_cases hj : j < a.length
      · have k1 : (j : Int) < (a.length : Int) := by omega
        have k0 : (0 : Int) ≤ (j : Int) := by omega
        have hjb : j < b.length := by have := HL.out; omega
        have k2 : (j : Int) < (b.length : Int) := by omega
        obtain ⟨ba, oa, c1, e1, ea⟩ := ReadsB.at_ (HU.out.below HJ.out.1) (by omega)
        obtain ⟨bb, ob, c2, e2, eb⟩ := ReadsB.at_ (HV.out.below HJ.out.1) (by omega)
        cases e1
        cases e2
        have qa := ea j hj
        have qb := eb j hjb
        have hta : a.take (j + 1) = a.take j ++ [a[j]] := List.take_succ_eq_append_getElem hj
        have htb : b.take (j + 1) = b.take j ++ [b[j]] := List.take_succ_eq_append_getElem hjb
        by_cases hx : a[j] = b[j]
        · have hq : ((a[j].toNat : Int) != (b[j].toNat : Int)) = false := by rw [hx]; simp
          have HN : Hid (a.take (j + 1) = b.take (j + 1)) := by show _ = _; rw [hta, htb, HJ.out.2, hx]
          generalize a[j] = x at *
          generalize b[j] = y at *
          clear hta htb ea eb hx
          go_wp2_with fail
          go_quiet (fail)
          go_wp2_with fail
          go_roundw
          case rel => exact ⟨j + 1, by go_num, by omega, HJ.out.1.trans ⟨rfl, rfl, rfl, Nat.le_refl _, fun _ _ => rfl⟩, HN.out⟩
          case measure => simp [intOf]; omega
        · have hne : ¬ (a[j].toNat : Int) = (b[j].toNat : Int) := fun h => hx (UInt8.toNat_inj.1 (by omega))
          have hq : ((a[j].toNat : Int) != (b[j].toNat : Int)) = true := by simp [hne]
          have HR : Hid ((a == b) = false) := by
            show _ = _
            refine beq_eq_false_iff_ne.2 fun h => hx ?_
            subst h; rfl
          generalize a[j] = x at *
          generalize b[j] = y at *
          clear hta htb ea eb hx hne
          go_wp2_with fail
          go_quiet (fail)
          go_wp2_with fail
          go_ret
          exact ⟨by rw [HR.out]; rfl, HJ.out.1.trans ⟨rfl, rfl, rfl, Nat.le_refl _, fun _ _ => rfl⟩⟩
      · have HR : Hid ((a == b) = true) := by
          show _ = _
          have h2 := HJ.out.2
          have h3 := HL.out
          rw [List.take_of_length_le (by omega), List.take_of_length_le (by omega)] at h2
          rw [h2]; simp
        obtain rfl : j = a.length := by omega
        go_wp2_with fail
        go_ret
        exact ⟨by rw [HR.out]; rfl, HJ.out.1⟩
  · have hne : ¬ (a.length : Int) = (b.length : Int) := by omega
    have h1 : ((a.length : Int) != (b.length : Int)) = true := by simp [hne]
    have HR : Hid ((a == b) = false) := by
      show _ = _
      exact beq_eq_false_iff_ne.2 fun h => hl (by rw [h])
    clear hu hv ha hl hne
    go_enter Try.func40, Try.ntmps40
    go_wp2_with fail
    go_ret
    exact ⟨by rw [HR.out]; rfl, Below.refl _ _⟩

def sameB (r q : RepIn) : Bool := (r.code == q.code) && ((r.size == q.size) && (r.d == q.d))
theorem same_any (r q : RepIn) (u v : Value) (w : World) (hu : ReadsB w u r.d) (hv : ReadsB w v q.d) (hr : r.d.length ≤ 140737488351232) : Calls Try.prog 36 #[repV r u, repV q v] w fun e w' => e = .returned (.bool (sameB r q)) ∧ Below w.heap.size w w' := by
  obtain ⟨c1, z1, d1⟩ := r
  obtain ⟨c2, z2, d2⟩ := q
  simp only [repV, sameB] at *
  have HB : Hid (∀ o o', Below w.heap.size w ((w.alloc o).alloc o')) := fun o o' => ((Below.refl _ _).alloc (Nat.le_refl _) o).alloc (by simp) o'
  have HE : Hid (∀ w', Below w.heap.size w w' → Calls Try.prog 40 #[u, v] w' fun e w'' => e = .returned (.bool (d1 == d2)) ∧ Below w.heap.size w w'') := fun w' hb => (equal_any u v d1 d2 w' (hu.below hb) (hv.below hb) hr).mono fun _ _ ⟨he, hb2⟩ => ⟨he, hb.trans (hb2.mono hb.size)⟩
  obtain ⟨A, ca, rfl⟩ := hu.slice
  obtain ⟨B, cb, rfl⟩ := hv.slice
  clear hu hv hr
  generalize (d1 == d2) = D at *
  have hcase : (c1 == c2) = false ∨ ((c1 == c2) = true ∧ (z1 == z2) = false) ∨ ((c1 == c2) = true ∧ (z1 == z2) = true) := by
    cases (c1 == c2) <;> cases (z1 == z2) <;> simp
  rcases hcase with h1 | ⟨h1, h2⟩ | ⟨h1, h2⟩
  · go_enter Try.func36, Try.ntmps36
    go_wp2_with fail
    go_ret
    exact ⟨by simp [*], HB.out _ _⟩
  · go_enter Try.func36, Try.ntmps36
    go_wp2_with fail
    go_ret
    exact ⟨by simp [*], HB.out _ _⟩
  · go_enter Try.func36, Try.ntmps36
    go_wp2_with (go_at_call 40; refine (HE.out _ (HB.out _ _)).mono ?_; rintro e w1 ⟨rfl, hb⟩)
    go_ret
    exact ⟨by simp [*], hb⟩
end Go.Proofs.Ytbbbdhpihcbmmaa
