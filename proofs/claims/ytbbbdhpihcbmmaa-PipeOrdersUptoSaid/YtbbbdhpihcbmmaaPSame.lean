/- The reference's SameReply: what it tells of any two replies. -/
import Derived.Test.YtbbbdhpihcbmmaaPSmall
namespace Go.Proofs.Ytbbbdhpihcbmmaa
open Go.RowKit Own

set_option maxHeartbeats 1000000 in
theorem rsame_any (r q : RepIn) (u v : Value) (w : World) (hu : ReadsB w u r.d) (hv : ReadsB w v q.d) : Calls Try.prog 18 #[repV r u, repV q v] w fun e w' => e = .returned (.bool (sameB r q)) ∧ Below w.heap.size w w' := by
  obtain ⟨c1, z1, d1⟩ := r
  obtain ⟨c2, z2, d2⟩ := q
  simp only [repV, sameB] at *
  have hb : ∀ o o' : Obj, Below w.heap.size w ((w.alloc o).alloc o') := fun o o' => ((Below.refl _ _).alloc (Nat.le_refl _) o).alloc (by simp) o'
  have hc1 := fun o o' => conv_reads (hu.below (hb o o'))
  have hc2 := fun o o' => conv_reads (hv.below (hb o o'))
  have HB := Lib.hid hb
  obtain ⟨A, ca, rfl⟩ := hu.slice
  obtain ⟨B, cb, rfl⟩ := hv.slice
  clear hu hv hb
  have hcase : (c1 == c2) = false ∨ ((c1 == c2) = true ∧ (z1 == z2) = false) ∨ ((c1 == c2) = true ∧ (z1 == z2) = true) := by
    cases (c1 == c2) <;> cases (z1 == z2) <;> simp
  rcases hcase with h1 | ⟨h1, h2⟩ | ⟨h1, h2⟩
  · clear hc1 hc2
    go_enter Try.func18, Try.ntmps18
    go_wp2_with fail
    go_ret
    exact ⟨by simp [*], HB.out _ _⟩
  · clear hc1 hc2
    go_enter Try.func18, Try.ntmps18
    go_wp2_with fail
    go_ret
    exact ⟨by simp [*], HB.out _ _⟩
  · by_cases hd : d1 = d2
    · subst hd
      go_enter Try.func18, Try.ntmps18
      go_wp2_with fail
      go_ret
      exact ⟨by simp [*], HB.out _ _⟩
    · have hdd : (d1 == d2) = false := beq_eq_false_iff_ne.2 hd
      have hne : ((⟨d1.toArray⟩ : ByteArray) == ⟨d2.toArray⟩) = false := by
        show (d1.toArray == d2.toArray) = false
        rw [beq_eq_false_iff_ne]
        intro h
        exact hd (by have := congrArg Array.toList h; simpa using this)
      clear hd
      go_enter Try.func18, Try.ntmps18
      go_wp2_with fail
      go_ret
      exact ⟨by simp [*], HB.out _ _⟩
end Go.Proofs.Ytbbbdhpihcbmmaa
