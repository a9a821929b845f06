/- The walk of awake (pipe). -/
import Derived.Test.YtbbbdhpihcbmmaaPRight
namespace Go.Proofs.Ytbbbdhpihcbmmaa
open Go.RowKit Own

theorem doR_three : doR ⟨3, ⟨#[97]⟩, 0, [7], 0⟩ true [5] = ⟨0, 0, [], true, [5, 7]⟩ := by kernel_rfl
theorem doR_six : doR ⟨6, ⟨#[97]⟩, 0, [], 0⟩ false [] = ⟨4, 0, [], false, []⟩ := by kernel_rfl
def ev0 : EvIn := ⟨1, 0, false, false, ⟨6, ⟨#[97]⟩, 0, [], 0⟩, ⟨0, 0, []⟩⟩
def ev1 (c : Int) : EvIn := ⟨1, 0, true, false, ⟨0, ⟨#[]⟩, 0, [], 0⟩, ⟨c, 0, []⟩⟩
theorem chk_two (c : Int) : chkH [ev0, ev1 c] = 0 := by kernel_rfl
theorem evOk0 : EvOk ev0 := ⟨by decide, by decide, ⟨by decide, by decide, by decide, by decide, by decide⟩, by decide⟩
theorem evOk1 (c : Int) : EvOk (ev1 c) := ⟨(rfl : (Lit.int .i64 1).wf = true), (rfl : (Lit.int .i64 0).wf = true), ⟨(rfl : (Lit.int .i64 0).wf = true), (rfl : (Lit.int .i64 0).wf = true), (rfl : (Lit.int .i64 0).wf = true), Nat.zero_le _, Nat.zero_le _⟩, Nat.zero_le _⟩
theorem evs_block {w : World} {b : Nat} {x0 x1 : EvIn} {t : TypeId} {fr : Nat × Nat} {d0 r0 d1 r1 : Value} (h : w.heap[b]? = some (.cells (evC x0 d0 r0 ++ evC x1 d1 r1) t fr)) (h0 : ReadsB w d0 x0.call.d) (h1 : ReadsB w r0 x0.rep.d) (h2 : ReadsB w d1 x1.call.d) (h3 : ReadsB w r1 x1.rep.d) : ReadsEvs w (.slice (some ⟨b, 0, none⟩) 2 2) [x0, x1] := by
  refine .inr ⟨b, 0, 2, rfl, fun i hi => ?_⟩
  have hcell : ∀ j u, (evC x0 d0 r0 ++ evC x1 d1 r1)[j]? = some u → w.cell? ⟨b, j, none⟩ = some u := fun j u hu => by
    rw [cell_of_row _ _ j _ _ _ h]; exact hu
  match i, hi with
  | 0, _ => exact ⟨d0, r0, fun j u hu => hcell _ _ (by
      have hj : j < (evC x0 d0 r0).size := (Array.getElem?_eq_some_iff.1 hu).1
      rw [show 0 + 0 * 12 + j = j by omega, Array.getElem?_append_left hj]; exact hu), h0, h1⟩
  | 1, _ => exact ⟨d1, r1, fun j u hu => hcell _ _ (by
      rw [show 0 + 1 * 12 + j = (evC x0 d0 r0).size + j by simp [evC], Array.getElem?_append_right (by omega)]
      rw [show (evC x0 d0 r0).size + j - (evC x0 d0 r0).size = j by omega]; exact hu), h2, h3⟩

theorem right_blk (X : World) (c : Int) (b : Bool) (n : Nat) (hn : X.heap.size = n) (hb : sameB ⟨4, 0, []⟩ ⟨c, 0, []⟩ = b) : Calls Try.prog 12 #[.slice (some ⟨n, 0, none⟩) 2 2] (X.alloc (.cells #[.int .i64 1, .int .i64 0, .bool false, .bool false, .int .i64 6, .string ⟨#[97]⟩, .int .i64 0, .slice none 0 0, .int .i64 0, .int .i64 0, .int .i64 0, .slice none 0 0, .int .i64 1, .int .i64 0, .bool true, .bool false, .int .i64 0, .string ⟨#[]⟩, .int .i64 0, .slice none 0 0, .int .i64 0, .int .i64 c, .int .i64 0, .slice none 0 0] 44)) fun e w' => e = .returned (.tuple #[.bool b, .int .i64 0]) ∧ Below X.heap.size X w' := by
  subst hn
  have hnew := heap_alloc_new X (.cells #[.int .i64 1, .int .i64 0, .bool false, .bool false, .int .i64 6, .string ⟨#[97]⟩, .int .i64 0, .slice none 0 0, .int .i64 0, .int .i64 0, .int .i64 0, .slice none 0 0, .int .i64 1, .int .i64 0, .bool true, .bool false, .int .i64 0, .string ⟨#[]⟩, .int .i64 0, .slice none 0 0, .int .i64 0, .int .i64 c, .int .i64 0, .slice none 0 0] 44)
  have hb1 : Below X.heap.size X (X.alloc (.cells #[.int .i64 1, .int .i64 0, .bool false, .bool false, .int .i64 6, .string ⟨#[97]⟩, .int .i64 0, .slice none 0 0, .int .i64 0, .int .i64 0, .int .i64 0, .slice none 0 0, .int .i64 1, .int .i64 0, .bool true, .bool false, .int .i64 0, .string ⟨#[]⟩, .int .i64 0, .slice none 0 0, .int .i64 0, .int .i64 c, .int .i64 0, .slice none 0 0] 44)) := (Below.refl _ _).alloc (Nat.le_refl _) _
  have hev := evs_block (x0 := ev0) (x1 := ev1 c) (d0 := .slice none 0 0) (r0 := .slice none 0 0) (d1 := .slice none 0 0) (r1 := .slice none 0 0) hnew (.inl ⟨rfl, rfl⟩) (.inl ⟨rfl, rfl⟩) (.inl ⟨rfl, rfl⟩) (.inl ⟨rfl, rfl⟩)
  have h := right_two _ ev0 (ev1 c) _ hev evOk0 (evOk1 c) rfl rfl rfl ⟨rfl, rfl⟩ (chk_two c)
  refine h.mono fun e w' ⟨he, hbb⟩ => ⟨he.trans ?_, hb1.trans (hbb.mono hb1.size)⟩
  have e1 : doR ev0.call false [] = ⟨4, 0, [], false, []⟩ := doR_six
  rw [e1]
  have e2 : sameB (repOf ⟨4, 0, [], false, []⟩) (ev1 c).rep = b := hb
  rw [e2]
theorem two_new {w w1 : World} {O1 O2 : Obj} (hb : Below ((w.alloc O1).alloc O2).heap.size ((w.alloc O1).alloc O2) w1) : w1.heap[w.heap.size]? = some O1 ∧ w1.heap[w.heap.size + 1]? = some O2 ∧ Below w.heap.size w w1 := by
  have hn : (w.alloc O1).heap.size = w.heap.size + 1 := Array.size_push _
  have e1 : ((w.alloc O1).alloc O2).heap[w.heap.size]? = some O1 := (((Below.refl _ (w.alloc O1)).alloc (Nat.le_refl _) O2).block _ (by rw [hn]; omega)).trans (heap_alloc_new w O1)
  have e2 : ((w.alloc O1).alloc O2).heap[w.heap.size + 1]? = some O2 := by rw [← hn]; exact heap_alloc_new _ O2
  have hb2 : Below w.heap.size w ((w.alloc O1).alloc O2) := ((Below.refl _ _).alloc (Nat.le_refl _) O1).alloc (by rw [hn]; omega) O2
  exact ⟨(hb.block _ (Array.getElem?_eq_some_iff.1 e1).1).trans e1, (hb.block _ (Array.getElem?_eq_some_iff.1 e2).1).trans e2, hb2.trans (hb.mono hb2.size)⟩

set_option maxHeartbeats 8000000 in
theorem awake_any (w : World) : Calls Try.prog 9 #[] w fun e w' => e = .returned (.bool true) ∧ Below w.heap.size w w' := by
  have al := fun (W : World) o => (Below.refl W.heap.size W).alloc (Nat.le_refl _) o
  obtain ⟨wA, hwA⟩ : ∃ wA, wA = (w.alloc (.cells #[.int .u8 7] 5)).alloc (.cells #[.int .u8 5] 5) := ⟨_, rfl⟩
  have hn1 : (w.alloc (.cells #[.int .u8 7] 5)).heap.size = w.heap.size + 1 := Array.size_push _
  have k0 := heap_alloc_new w (.cells #[.int .u8 7] 5)
  have k1 := heap_alloc_new (w.alloc (.cells #[.int .u8 7] 5)) (.cells #[.int .u8 5] 5)
  rw [hn1] at k1
  have k0 : wA.heap[w.heap.size]? = some (.cells #[.int .u8 7] 5 (0, 0)) := by rw [hwA]; exact ((al _ _).block _ (Array.getElem?_eq_some_iff.1 k0).1).trans k0
  rw [← hwA] at k1
  have hbA : Below w.heap.size w wA := by
    rw [hwA]
    exact ((Below.refl _ _).alloc (Nat.le_refl _) _).alloc (by rw [hn1]; omega) _
  have rd : ∀ (b : Nat) (x : UInt8), wA.heap[b]? = some (.cells #[.int .u8 x.toNat] 5 (0, 0)) → ReadsB wA (.slice (some ⟨b, 0, none⟩) 1 1) [x] := fun b x h => .inr ⟨⟨b, 0, none⟩, 1, rfl, fun j u hu => by
    match j, hu with
    | 0, hu =>
      rw [Addr.add_lit, cell_of_row _ _ _ _ _ _ h]
      exact hu⟩
  have hdo := do_any ⟨3, ⟨#[97]⟩, 0, [7], 0⟩ (.slice (some ⟨w.heap.size, 0, none⟩) 1 1) (.slice (some ⟨w.heap.size + 1, 0, none⟩) 1 1) true [5] wA (rd _ 7 k0) (rd _ 5 k1) (fun A n k e => by cases e; exact Nat.le_refl _) (by simp) (by decide) (by decide)
  rw [doR_three] at hdo
  have HD : Hid (Calls Try.prog 7 #[.agg #[.int .i64 3, .string ⟨#[97]⟩, .int .i64 0, .slice (some ⟨w.heap.size, 0, none⟩) 1 1, .int .i64 0], .bool true, .slice (some ⟨w.heap.size + 1, 0, none⟩) 1 1] wA fun e w' => ∃ A1 c1 A2 c3, e = .returned (.tuple #[.agg #[.int .i64 0, .int .i64 0, .slice A1 0 c1], .bool true, .slice A2 2 c3]) ∧ ReadsB w' (.slice A2 2 c3) [5, 7] ∧ Below wA.heap.size wA w') := by
    refine hdo.mono ?_
    rintro e w' ⟨d1, d2, rfl, o1, o2, hb⟩
    obtain ⟨A1, c1, rfl, _⟩ := o1.form
    obtain ⟨A2, c3, rfl, _⟩ := o2.form
    exact ⟨A1, c1, A2, c3, rfl, o2.reads, hb⟩
  have HA := Lib.hid hbA
  clear hdo rd k0 k1 hn1 hbA
  subst hwA
  have HR0 : Hid (∀ (X : World) (n : Nat), X.heap.size = n → Calls Try.prog 12 #[.slice (some ⟨n, 0, none⟩) 2 2] (X.alloc (.cells #[.int .i64 1, .int .i64 0, .bool false, .bool false, .int .i64 6, .string ⟨#[97]⟩, .int .i64 0, .slice none 0 0, .int .i64 0, .int .i64 0, .int .i64 0, .slice none 0 0, .int .i64 1, .int .i64 0, .bool true, .bool false, .int .i64 0, .string ⟨#[]⟩, .int .i64 0, .slice none 0 0, .int .i64 0, .int .i64 0, .int .i64 0, .slice none 0 0] 44)) fun e w' => e = .returned (.tuple #[.bool false, .int .i64 0]) ∧ Below X.heap.size X w') := fun X n hn => right_blk X 0 false n hn rfl
  have HR4 : Hid (∀ (X : World) (n : Nat), X.heap.size = n → Calls Try.prog 12 #[.slice (some ⟨n, 0, none⟩) 2 2] (X.alloc (.cells #[.int .i64 1, .int .i64 0, .bool false, .bool false, .int .i64 6, .string ⟨#[97]⟩, .int .i64 0, .slice none 0 0, .int .i64 0, .int .i64 0, .int .i64 0, .slice none 0 0, .int .i64 1, .int .i64 0, .bool true, .bool false, .int .i64 0, .string ⟨#[]⟩, .int .i64 0, .slice none 0 0, .int .i64 0, .int .i64 4, .int .i64 0, .slice none 0 0] 44)) fun e w' => e = .returned (.tuple #[.bool true, .int .i64 0]) ∧ Below X.heap.size X w') := fun X n hn => right_blk X 4 true n hn rfl
  go_enter Try.func9, Try.ntmps9
  go_wp2_with (first | (go_at_call 7; (with_reducible refine HD.out.mono ?_); rintro e w1 ⟨A1, c1, A2, c3, rfl, hd, hb1⟩; have H1 := Lib.hid (And.intro hb1 hd); clear hb1 hd))
  go_at_call 12
  (refine (HR0.out _ _ ?_).mono ?_)
  · simp only [World.alloc, Array.size_push]
  rintro e w2 ⟨rfl, hb2⟩
  obtain ⟨f1, f2, f3⟩ := two_new hb2
  have H2 := Lib.hid (And.intro f1 (And.intro f2 f3))
  have g0 := cell_of_row _ _ 0 _ _ _ f2
  have g1 := cell_of_row _ _ 1 _ _ _ f2
  simp only [List.getElem?_toArray, List.getElem?_cons_zero, List.getElem?_cons_succ] at g0 g1
  clear hb2 f1 f2 f3
  go_wp2_with fail
  go_at_call 12
  (refine (HR4.out _ _ ?_).mono ?_)
  · rfl
  rintro e w3 ⟨rfl, hb3⟩
  have f1 := (hb3.block _ (Array.getElem?_eq_some_iff.1 H2.out.1).1).trans H2.out.1
  have r0 := cell_of_row _ _ 0 _ _ _ f1
  simp only [List.getElem?_toArray, List.getElem?_cons_zero] at r0
  have hb13 := H2.out.2.2.trans (hb3.mono H2.out.2.2.size)
  have hcv := conv_reads (H1.out.2.below hb13)
  have H3 := Lib.hid hb13
  clear hb3 f1 hb13
  go_wp2_with fail
  go_ret
  exact ⟨rfl, (HA.out.trans (H1.out.1.mono HA.out.size)).trans (H3.out.mono (HA.out.trans (H1.out.1.mono HA.out.size)).size)⟩
end Go.Proofs.Ytbbbdhpihcbmmaa
