/- PipeDoes: the walk, but for the reference's Do and the known question. -/
import Derived.Test.YtbbbdhpihcbmmaaPReads0
import Derived.Test.YtbbbdhpihcbmmaaPRDo0
import Derived.Test.YtbbbdhpihcbmmaaPSame
import Derived.Deep.RegionHeld3
import Derived.Deep.Cut
namespace Go.Proofs.Ytbbbdhpihcbmmaa
open Go.RowKit Own

/-- what PipeDoes keeps: its boxes and what it reads -/
structure PDF (w0 : World) (c : CallIn) (dv : Value) (code size : Int) (dv1 dv2 : Value) (data : List UInt8) (has2 : Bool) (v1 v2 : Value) (b2 : List UInt8) (ov bv : Value) (b : List UInt8) (cb n1 n2 n3 : Nat) (w : World) : Prop where
  call : w.heap[cb]? = some (.cells #[.int .i64 c.k, .string c.s, .int .i64 c.a, dv, .int .i64 c.n] 30 (0, 0))
  r1 : w.heap[n1]? = some (.cells #[.int .i64 code, .int .i64 size, dv1] 26 (0, 0))
  r2 : w.heap[n2]? = some (.cells #[.int .i64 code, .int .i64 size, dv2] 26 (0, 0))
  ob : w.heap[n3]? = some (.cells #[.bool has2, v2] 38 (0, 0))
  d1 : ReadsB w dv1 data
  d2 : ReadsB w dv2 data
  e1 : ReadsB w v1 b2
  e2 : ReadsB w v2 b2
  o1 : ReadsB w ov b
  o2 : ReadsB w bv b
  below : Below w0.heap.size w0 w
section
variable {w0 w w' : World} {c : CallIn} {dv dv1 dv2 v1 v2 ov bv : Value} {code size : Int} {has2 : Bool} {data b2 b : List UInt8} {cb n1 n2 n3 : Nat}
theorem PDF.go (h : PDF w0 c dv code size dv1 dv2 data has2 v1 v2 b2 ov bv b cb n1 n2 n3 w) (hb2 : Below w.heap.size w w') : PDF w0 c dv code size dv1 dv2 data has2 v1 v2 b2 ov bv b cb n1 n2 n3 w' :=
  ⟨(hb2.block _ (Array.getElem?_eq_some_iff.1 h.call).1).trans h.call, (hb2.block _ (Array.getElem?_eq_some_iff.1 h.r1).1).trans h.r1, (hb2.block _ (Array.getElem?_eq_some_iff.1 h.r2).1).trans h.r2, (hb2.block _ (Array.getElem?_eq_some_iff.1 h.ob).1).trans h.ob,
    h.d1.below hb2, h.d2.below hb2, h.e1.below hb2, h.e2.below hb2, h.o1.below hb2, h.o2.below hb2, h.below.trans (hb2.mono h.below.size)⟩
end
def PDS (w0 : World) (c : CallIn) (dv : Value) (code size : Int) (dv1 dv2 : Value) (data : List UInt8) (has2 : Bool) (v1 v2 : Value) (b2 : List UInt8) (ov bv : Value) (b : List UInt8) (cb n1 n2 n3 : Nat) (w : World) : Prop :=
  w.cell? ⟨cb, 0, none⟩ = some (.int .i64 c.k) ∧ w.cell? ⟨cb, 1, none⟩ = some (.string c.s) ∧ w.cell? ⟨cb, 2, none⟩ = some (.int .i64 c.a) ∧ w.cell? ⟨cb, 3, none⟩ = some dv ∧ w.cell? ⟨cb, 4, none⟩ = some (.int .i64 c.n) ∧
  (convert 23 9 ov).run Try.prog w = .ok (.string ⟨b.toArray⟩) w ∧ (convert 23 9 bv).run Try.prog w = .ok (.string ⟨b.toArray⟩) w ∧ PDF w0 c dv code size dv1 dv2 data has2 v1 v2 b2 ov bv b cb n1 n2 n3 w
theorem PDF.held {w0 w : World} {c : CallIn} {dv dv1 dv2 v1 v2 ov bv : Value} {code size : Int} {has2 : Bool} {data b2 b : List UInt8} {cb n1 n2 n3 : Nat} (h : PDF w0 c dv code size dv1 dv2 data has2 v1 v2 b2 ov bv b cb n1 n2 n3 w) : PDS w0 c dv code size dv1 dv2 data has2 v1 v2 b2 ov bv b cb n1 n2 n3 w :=
  ⟨by rw [cell_of_row _ _ 0 _ _ _ h.call]; rfl, by rw [cell_of_row _ _ 1 _ _ _ h.call]; rfl, by rw [cell_of_row _ _ 2 _ _ _ h.call]; rfl, by rw [cell_of_row _ _ 3 _ _ _ h.call]; rfl, by rw [cell_of_row _ _ 4 _ _ _ h.call]; rfl, conv_reads h.o1, conv_reads h.o2, h⟩

attribute [local go_sem ↓] hide_append
set_option maxHeartbeats 4000000 in
theorem pdoes_walk (hA : ∀ w, Calls Try.prog 9 #[] w fun e w' => e = .returned (.bool true) ∧ Below w.heap.size w w') (c : CallIn) (hok : CallOk c) (hs : c.s.size ≤ 1048576) (dv bv : Value) (has : Bool) (b : List UInt8) (w : World) (hd : ReadsB w dv c.d) (hb : ReadsB w bv b)
    (hR : ∀ W, Below w.heap.size w W → b.length ≤ 4096 → Calls Try.prog 11 #[callV c dv, .agg #[.bool has, bv]] W (RDoPost (doR c has b) W)) :
    Calls Try.prog 6 #[callV c dv, .bool has, bv] w fun e w' => e = .returned (.bool true) ∧ Below w.heap.size w w' := by
  obtain ⟨Ab, cb, rfl⟩ := hb.slice
  obtain ⟨Ad, cd, rfl⟩ := hd.slice
  have HA := Lib.hid hA
  have HAl : Hid (∀ (W : World) o, Below W.heap.size W (W.alloc o)) := fun W o => (Below.refl _ _).alloc (Nat.le_refl _) o
  by_cases h1 : 4096 < b.length
  · have k1 : (4096 : Int) < (b.length : Int) := by omega
    obtain ⟨k, s, a, d, n⟩ := c
    simp only [callV] at *
    clear hA hok hs hd hb hR h1
    go_enter Try.func6, Try.ntmps6
    go_wp2_with (go_at_call 9; refine (HA.out _).mono ?_; rintro e w9 ⟨rfl, hb9⟩)
    go_ret
    exact ⟨rfl, (HAl.out w _).trans (hb9.mono (HAl.out w _).size)⟩
  · have k1 : ¬ (4096 : Int) < (b.length : Int) := by omega
    obtain ⟨w0, hw0⟩ : ∃ w0, w0 = w.alloc (.cells #[.int .i64 c.k, .string c.s, .int .i64 c.a, .slice Ad c.d.length cd, .int .i64 c.n] 30) := ⟨_, rfl⟩
    have hz : w0.heap.size = w.heap.size + 1 := by rw [hw0]; exact Array.size_push _
    have hbx : w0.heap[w.heap.size]? = some (.cells #[.int .i64 c.k, .string c.s, .int .i64 c.a, .slice Ad c.d.length cd, .int .i64 c.n] 30 (0, 0)) := by rw [hw0]; exact heap_alloc_new w _
    have hb0 : Below w.heap.size w w0 := by rw [hw0]; exact HAl.out w _
    obtain ⟨ov, wA, hap, hown, hbel⟩ := own_copy (.slice Ab b.length cb) b w0 (hb.below hb0) (by omega)
    obtain ⟨Ao, co, rfl⟩ := own_slice hown
    have hbA := (hbel.block _ (Array.getElem?_eq_some_iff.1 hbx).1).trans hbx
    have hbw : Below w.heap.size w wA := hb0.trans (hbel.mono hb0.size)
    have hDo : Calls Try.prog 7 #[callV c (.slice Ad c.d.length cd), .bool has, .slice Ao b.length co] wA fun e w' => ∃ A1 c1 A2 c2, e = .returned (.tuple #[.agg #[.int .i64 (doR c has b).code, .int .i64 (doR c has b).size, .slice A1 (doR c has b).data.length c1], .bool (doR c has b).has, .slice A2 (doR c has b).b.length c2]) ∧ ReadsB w' (.slice A1 (doR c has b).data.length c1) (doR c has b).data ∧ ReadsB w' (.slice A2 (doR c has b).b.length c2) (doR c has b).b ∧ Below wA.heap.size wA w' := by
      refine (c_do c hok _ _ has b w0.heap.size wA (hd.below hbw) (OwnB.of_row hown) (by omega)).mono ?_
      rintro e w' ⟨d1, d2, rfl, o1, o2, hb⟩
      obtain ⟨A1, c1, rfl, _⟩ := o1.form
      obtain ⟨A2, c2, rfl, _⟩ := o2.form
      exact ⟨A1, c1, A2, c2, rfl, o1.reads, o2.reads, hb⟩
    have HDo := Lib.hid hDo
    have HRd : Hid (∀ W, Below w.heap.size w W → Calls Try.prog 11 #[callV c (.slice Ad c.d.length cd), .agg #[.bool has, .slice Ab b.length cb]] W fun e w' => ∃ A1 c1 A2 c2, e = .returned (.tuple #[.agg #[.int .i64 (doR c has b).code, .int .i64 (doR c has b).size, .slice A1 (doR c has b).data.length c1], .agg #[.bool (doR c has b).has, .slice A2 (doR c has b).b.length c2]]) ∧ ReadsB w' (.slice A1 (doR c has b).data.length c1) (doR c has b).data ∧ ReadsB w' (.slice A2 (doR c has b).b.length c2) (doR c has b).b ∧ Below W.heap.size W w') := fun W hW => by
      refine (hR W hW (by omega)).mono ?_
      rintro e w' ⟨d1, d2, rfl, o1, o2, hb⟩
      obtain ⟨A1, c1, rfl⟩ := o1.slice
      obtain ⟨A2, c2, rfl⟩ := o2.slice
      exact ⟨A1, c1, A2, c2, rfl, o1, o2, hb⟩
    have HCk : Hid (∀ W, Below w.heap.size w W → Calls Try.prog 15 #[callV c (.slice Ad c.d.length cd)] W fun e w' => e = .returned (.int .i64 (if mayB c then 0 else 1)) ∧ Below W.heap.size W w') := fun W hW => by
      have := pcheck_any c _ W (hd.below hW) hok.s
      rwa [show mayN c = if mayB c then 0 else 1 by unfold mayN mayB; by_cases h : MayC c <;> simp [h]] at this
    have HMy : Hid (∀ W, Below w.heap.size w W → Calls Try.prog 10 #[callV c (.slice Ad c.d.length cd)] W fun e w' => e = .returned (.bool (mayB c)) ∧ Below W.heap.size W w') := fun W hW => rmay_any c _ W (hd.below hW) hs
    have HEr : Hid (∀ W, Calls Try.prog 16 #[.bool (mayB c)] W fun e w' => e = .returned (.int .i64 (if mayB c then 0 else 1)) ∧ W = w') := fun W => (errno_any (mayB c) W).mono fun _ _ ⟨h1, h2⟩ => ⟨h1, h2.symm⟩
    have HWr : Hid (∀ W, Calls Try.prog 8 #[callV c (.slice Ad c.d.length cd)] W fun e w' => e = .returned (.bool (writesB c.k)) ∧ Below W.heap.size W w') := fun W => pwrites_any c _ W ⟨_, _, _, rfl⟩
    have HRw : Hid (∀ W, Calls Try.prog 17 #[callV c (.slice Ad c.d.length cd)] W fun e w' => e = .returned (.bool (writesB c.k)) ∧ Below W.heap.size W w') := fun W => rwrites_any c _ W ⟨_, _, rfl⟩
    have HSm : Hid (∀ W (A1 A2 : Option Addr) (c1 c2 : Nat), ReadsB W (.slice A1 (doR c has b).data.length c1) (doR c has b).data → ReadsB W (.slice A2 (doR c has b).data.length c2) (doR c has b).data → Calls Try.prog 18 #[.agg #[.int .i64 (doR c has b).code, .int .i64 (doR c has b).size, .slice A1 (doR c has b).data.length c1], .agg #[.int .i64 (doR c has b).code, .int .i64 (doR c has b).size, .slice A2 (doR c has b).data.length c2]] W fun e w' => e = .returned (.bool true) ∧ Below W.heap.size W w') := fun W A1 A2 c1 c2 h1 h2 => by
      have := rsame_any ⟨(doR c has b).code, (doR c has b).size, (doR c has b).data⟩ ⟨(doR c has b).code, (doR c has b).size, (doR c has b).data⟩ _ _ W h1 h2
      rwa [show sameB ⟨(doR c has b).code, (doR c has b).size, (doR c has b).data⟩ ⟨(doR c has b).code, (doR c has b).size, (doR c has b).data⟩ = true by simp [sameB]] at this
    generalize doR c has b = r at *
    obtain ⟨code, size, data, has2, b2⟩ := r
    obtain ⟨k, s, a, d, n⟩ := c
    simp only [callV] at *
    generalize mayB ⟨k, s, a, d, n⟩ = mb at *
    generalize writesB k = wb at *
    generalize (if mb = true then (0 : Int) else 1) = zz at *
    have HW0 := Lib.hid (And.intro hbA hbw)
    have HBv := Lib.hid (hb.below hbw)
    have HOv := Lib.hid (ReadsB.own hown)
    have hap2 : (appendH #[23, 23] 23 #[.slice (some ⟨w.heap.size + 1, 0, none⟩) 0 0, .slice Ab b.length cb]).run Try.prog ((w.alloc (.cells #[.int .i64 k, .string s, .int .i64 a, .slice Ad d.length cd, .int .i64 n] 30)).alloc (.cells #[] 5)) = .ok (.slice Ao b.length co) wA := by
      rw [← hz, ← hw0]; exact hap
    have q0 : wA.cell? ⟨w.heap.size, 0, none⟩ = some (.int .i64 k) := by rw [cell_of_row _ _ 0 _ _ _ hbA]; rfl
    have q1 : wA.cell? ⟨w.heap.size, 1, none⟩ = some (.string s) := by rw [cell_of_row _ _ 1 _ _ _ hbA]; rfl
    have q2 : wA.cell? ⟨w.heap.size, 2, none⟩ = some (.int .i64 a) := by rw [cell_of_row _ _ 2 _ _ _ hbA]; rfl
    have q3 : wA.cell? ⟨w.heap.size, 3, none⟩ = some (.slice Ad d.length cd) := by rw [cell_of_row _ _ 3 _ _ _ hbA]; rfl
    have q4 : wA.cell? ⟨w.heap.size, 4, none⟩ = some (.int .i64 n) := by rw [cell_of_row _ _ 4 _ _ _ hbA]; rfl
    clear hA hok hs hd hb hR h1 hap hown hbel hbA hbw hDo hz hbx hb0 hw0 w0
    go_enter Try.func6, Try.ntmps6
    go_upto_region 5 with (go_at_call 7; (with_reducible refine HDo.out.mono ?_); rintro e w2 ⟨A1, c1, A2, c2, rfl, o1, o2, hb2⟩; have HO := Lib.hid (And.intro o1 (And.intro o2 hb2)); clear o1 o2 hb2)
    have hbw2 : ∀ o, Below w.heap.size w (w2.alloc o) := fun o => (HW0.out.2.trans (HO.out.2.2.mono HW0.out.2.size)).trans ((HAl.out w2 o).mono (HW0.out.2.trans (HO.out.2.2.mono HW0.out.2.size)).size)
    have hbx2 : ∀ o, (w2.alloc o).heap[w.heap.size]? = _ := fun o => (((HO.out.2.2.trans ((HAl.out w2 o).mono HO.out.2.2.size))).block _ (Array.getElem?_eq_some_iff.1 HW0.out.1).1).trans HW0.out.1
    have f0 : ∀ o, (w2.alloc o).cell? ⟨w.heap.size, 0, none⟩ = some (.int .i64 k) := fun o => by rw [cell_of_row _ _ 0 _ _ _ (hbx2 o)]; rfl
    have f1 : ∀ o, (w2.alloc o).cell? ⟨w.heap.size, 1, none⟩ = some (.string s) := fun o => by rw [cell_of_row _ _ 1 _ _ _ (hbx2 o)]; rfl
    have f2 : ∀ o, (w2.alloc o).cell? ⟨w.heap.size, 2, none⟩ = some (.int .i64 a) := fun o => by rw [cell_of_row _ _ 2 _ _ _ (hbx2 o)]; rfl
    have f3 : ∀ o, (w2.alloc o).cell? ⟨w.heap.size, 3, none⟩ = some (.slice Ad d.length cd) := fun o => by rw [cell_of_row _ _ 3 _ _ _ (hbx2 o)]; rfl
    have f4 : ∀ o, (w2.alloc o).cell? ⟨w.heap.size, 4, none⟩ = some (.int .i64 n) := fun o => by rw [cell_of_row _ _ 4 _ _ _ (hbx2 o)]; rfl
    have HB2 := Lib.hid hbw2
    clear q0 q1 q2 q3 q4 hap2 hbw2 hbx2
    go_upto_region 6 with (go_at_call 11; (with_reducible refine (HRd.out _ (HB2.out _)).mono ?_); rintro e w3 ⟨A3, c3, A4, c4, rfl, o3, o4, hb3⟩; have HO3 := Lib.hid (And.intro o3 (And.intro o4 hb3)); clear o3 o4 hb3)
    clear f0 f1 f2 f3 f4
    obtain ⟨W6, hW6⟩ : ∃ W6, W6 = (w3.alloc (.cells #[.int .i64 code, .int .i64 size, .slice A3 data.length c3] 26)).alloc (.cells #[.bool has2, .slice A4 b2.length c4] 38) := ⟨_, rfl⟩
    have P6 : PDF w ⟨k, s, a, d, n⟩ (.slice Ad d.length cd) code size (.slice A1 data.length c1) (.slice A3 data.length c3) data has2 (.slice A2 b2.length c2) (.slice A4 b2.length c4) b2 (.slice Ao b.length co) (.slice Ab b.length cb) b w.heap.size w2.heap.size w3.heap.size (w3.heap.size + 1) W6 := by
      obtain ⟨o1, o2, hb2⟩ := HO.out
      obtain ⟨o3, o4, hb3⟩ := HO3.out
      have a2 := HAl.out w2 (.cells #[.int .i64 code, .int .i64 size, .slice A1 data.length c1] 26)
      have n2 := heap_alloc_new w2 (.cells #[.int .i64 code, .int .i64 size, .slice A1 data.length c1] 26)
      have a3 := HAl.out w3 (.cells #[.int .i64 code, .int .i64 size, .slice A3 data.length c3] 26)
      have n3 := heap_alloc_new w3 (.cells #[.int .i64 code, .int .i64 size, .slice A3 data.length c3] 26)
      have z3 : (w3.alloc (.cells #[.int .i64 code, .int .i64 size, .slice A3 data.length c3] 26)).heap.size = w3.heap.size + 1 := Array.size_push _
      have a4 := HAl.out (w3.alloc (.cells #[.int .i64 code, .int .i64 size, .slice A3 data.length c3] 26)) (.cells #[.bool has2, .slice A4 b2.length c4] 38)
      have n4 := heap_alloc_new (w3.alloc (.cells #[.int .i64 code, .int .i64 size, .slice A3 data.length c3] 26)) (.cells #[.bool has2, .slice A4 b2.length c4] 38)
      rw [← hW6] at a4 n4
      rw [z3] at n4
      have b36 : Below w3.heap.size w3 W6 := a3.trans (a4.mono a3.size)
      have b26 := hb3.trans (b36.mono hb3.size)
      have b2a := a2.trans (b26.mono a2.size)
      have bA6 := hb2.trans (b2a.mono hb2.size)
      exact ⟨(bA6.block _ (Array.getElem?_eq_some_iff.1 HW0.out.1).1).trans HW0.out.1, (b26.block _ (Array.getElem?_eq_some_iff.1 n2).1).trans n2, (a4.block _ (Array.getElem?_eq_some_iff.1 n3).1).trans n3, n4,
        o1.below b2a, o3.below b36, o2.below b2a, o4.below b36, HOv.out.below bA6, HBv.out.below bA6, HW0.out.2.trans (bA6.mono HW0.out.2.size)⟩
    rw [← hW6]
    have HK : Hid (∀ W W', PDS w ⟨k, s, a, d, n⟩ (.slice Ad d.length cd) code size (.slice A1 data.length c1) (.slice A3 data.length c3) data has2 (.slice A2 b2.length c2) (.slice A4 b2.length c4) b2 (.slice Ao b.length co) (.slice Ab b.length cb) b w.heap.size w2.heap.size w3.heap.size (w3.heap.size + 1) W → Below W.heap.size W W' → PDS w ⟨k, s, a, d, n⟩ (.slice Ad d.length cd) code size (.slice A1 data.length c1) (.slice A3 data.length c3) data has2 (.slice A2 b2.length c2) (.slice A4 b2.length c4) b2 (.slice Ao b.length co) (.slice Ab b.length cb) b w.heap.size w2.heap.size w3.heap.size (w3.heap.size + 1) W') :=
      fun W W' h hb => (h.2.2.2.2.2.2.2.go hb).held
    have hks : PDS w ⟨k, s, a, d, n⟩ (.slice Ad d.length cd) code size (.slice A1 data.length c1) (.slice A3 data.length c3) data has2 (.slice A2 b2.length c2) (.slice A4 b2.length c4) b2 (.slice Ao b.length co) (.slice Ab b.length cb) b w.heap.size w2.heap.size w3.heap.size (w3.heap.size + 1) W6.drew :=
      (P6.go ((Below.refl _ _).drew)).held
    clear P6 hW6 HO HO3 HB2 HOv HBv HW0
    go_region_held3 (fun W => W.cell? ⟨w.heap.size, 0, none⟩ = some (.int .i64 k) ∧ W.cell? ⟨w.heap.size, 1, none⟩ = some (.string s) ∧ W.cell? ⟨w.heap.size, 2, none⟩ = some (.int .i64 a) ∧ W.cell? ⟨w.heap.size, 3, none⟩ = some (.slice Ad d.length cd) ∧ W.cell? ⟨w.heap.size, 4, none⟩ = some (.int .i64 n) ∧ (convert 23 9 (.slice Ao b.length co)).run Try.prog W = .ok (.string ⟨b.toArray⟩) W ∧ (convert 23 9 (.slice Ab b.length cb)).run Try.prog W = .ok (.string ⟨b.toArray⟩) W ∧ PDF w ⟨k, s, a, d, n⟩ (.slice Ad d.length cd) code size (.slice A1 data.length c1) (.slice A3 data.length c3) data has2 (.slice A2 b2.length c2) (.slice A4 b2.length c4) b2 (.slice Ao b.length co) (.slice Ab b.length cb) b w.heap.size w2.heap.size w3.heap.size (w3.heap.size + 1) W) (exact hks)
      (first
        | (go_at_call 15; refine (HCk.out _ hks.2.2.2.2.2.2.2.below).mono ?_; rintro e w5 ⟨rfl, hb5⟩; have hks := HK.out _ _ hks hb5)
        | (go_at_call 10; refine (HMy.out _ hks.2.2.2.2.2.2.2.below).mono ?_; rintro e w5 ⟨rfl, hb5⟩; have hks := HK.out _ _ hks hb5)
        | (go_at_call 16; refine (HEr.out _).mono ?_; rintro e w5 ⟨rfl, rfl⟩)
        | (go_at_call 8; refine (HWr.out _).mono ?_; rintro e w5 ⟨rfl, hb5⟩; have hks := HK.out _ _ hks hb5)
        | (go_at_call 17; refine (HRw.out _).mono ?_; rintro e w5 ⟨rfl, hb5⟩; have hks := HK.out _ _ hks hb5))
    all_goals
      obtain ⟨_, _, _, _, _, _, _, hP⟩ := hks
      have HP := Lib.hid hP
      have g0 : w5.cell? ⟨w2.heap.size, 0, none⟩ = some (.int .i64 code) := by rw [cell_of_row _ _ 0 _ _ _ hP.r1]; rfl
      have g1 : w5.cell? ⟨w2.heap.size, 1, none⟩ = some (.int .i64 size) := by rw [cell_of_row _ _ 1 _ _ _ hP.r1]; rfl
      have g2 : w5.cell? ⟨w2.heap.size, 2, none⟩ = some (.slice A1 data.length c1) := by rw [cell_of_row _ _ 2 _ _ _ hP.r1]; rfl
      have g3 : w5.cell? ⟨w3.heap.size, 0, none⟩ = some (.int .i64 code) := by rw [cell_of_row _ _ 0 _ _ _ hP.r2]; rfl
      have g4 : w5.cell? ⟨w3.heap.size, 1, none⟩ = some (.int .i64 size) := by rw [cell_of_row _ _ 1 _ _ _ hP.r2]; rfl
      have g5 : w5.cell? ⟨w3.heap.size, 2, none⟩ = some (.slice A3 data.length c3) := by rw [cell_of_row _ _ 2 _ _ _ hP.r2]; rfl
      clear hP HK HDo HRd HCk HMy HEr HWr HRw
      go_wp2_with (first
        | (go_at_call 18; (with_reducible refine (HSm.out _ _ _ _ _ HP.out.d1 HP.out.d2).mono ?_); rintro e w8 ⟨rfl, hb8⟩; have hp8 := HP.out.go hb8; have j0 : w8.cell? ⟨w3.heap.size + 1, 0, none⟩ = some (.bool has2) := by rw [cell_of_row _ _ 0 _ _ _ hp8.ob]; rfl
           have j1 : w8.cell? ⟨w3.heap.size + 1, 1, none⟩ = some (.slice A4 b2.length c4) := by rw [cell_of_row _ _ 1 _ _ _ hp8.ob]; rfl
           have u1 := conv_reads hp8.e1; have u2 := conv_reads hp8.e2; have HP8 := Lib.hid hp8; clear hp8 hb8)
        | (go_at_call 9; refine (HA.out _).mono ?_; rintro e w9 ⟨rfl, hb9⟩))
      go_ret
      exact ⟨rfl, HP8.out.below.trans (hb9.mono HP8.out.below.size)⟩
end Go.Proofs.Ytbbbdhpihcbmmaa
