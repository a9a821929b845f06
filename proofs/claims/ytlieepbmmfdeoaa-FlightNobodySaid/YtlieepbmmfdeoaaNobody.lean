/- FlightNobody: the methods on a flight that nobody made; the walk and the row. -/
import Derived.Test.YtlieepbmmfdeoaaAwake
import Derived.Test.YtlieepbmmfdeoaaBytesIn
import Derived.Lib.SmallJoins
import Derived.Deep.CondSized
namespace Go.Proofs.Ytlieepbmmfdeoaa.flightNobody
open Go.RowKit Own
open Go.ChangeShapes Go.WideShapes Go.ChangeAt

/-- a flight that nobody made: no pointer, or an empty one -/
def Nob (z : Value) (w : World) : Prop := z = .pointer none ∨ ∃ b, z = .pointer (some ⟨b, 0, none⟩) ∧ w.heap[b]? = some (.cells #[.slice none 0 0, .map none] 50 (0, 0))
theorem Nob.below {z : Value} {w w' : World} (h : Nob z w) (hb : Below w.heap.size w w') : Nob z w' := by
  rcases h with h | ⟨b, hz, hh⟩
  · exact .inl h
  · exact .inr ⟨b, hz, (hb.block b (Array.getElem?_eq_some_iff.1 hh).1).trans hh⟩
def Ans (v : Value) (w : World) (e : Ending) (w' : World) : Prop := e = .returned v ∧ Below w.heap.size w w'
theorem is_nob (z : Value) (w : World) (h : Nob z w) : Calls Try.prog 23 #[z] w fun e w' => e = .returned (.bool false) ∧ w = w' := by
  rcases h with rfl | ⟨b, rfl, hh⟩
  · go_enter Try.func23, Try.ntmps23
    go_wp2_with fail
    go_ret
    exact ⟨rfl, rfl⟩
  · have hc1 : w.cell? ⟨b, 1, none⟩ = some (.map none) := by rw [cell_of_row w b 1 _ _ _ hh]; rfl
    have hm := fun w => run_neq_map_nil (P := Try.prog) w 48 59 4 none Try.underlying48
    clear hh
    go_enter Try.func23, Try.ntmps23
    go_wp2_with fail
    go_ret
    exact ⟨rfl, rfl⟩
theorem len_nob (z : Value) (w : World) (h : Nob z w) : Calls Try.prog 16 #[z] w fun e w' => e = .returned (.int .i64 0) ∧ w = w' := by
  have HI := Lib.hid (is_nob z w h)
  clear h
  go_enter Try.func16, Try.ntmps16
  go_wp2_with (go_at_call 23; refine HI.out.mono ?_; rintro e w' ⟨rfl, rfl⟩)
  go_ret
  exact ⟨rfl, rfl⟩
theorem part_nob (z : Value) (a b : Int) (w : World) (h : Nob z w) : Calls Try.prog 19 #[z, .int .i64 a, .int .i64 b] w fun e w' => e = .returned (.tuple #[]) ∧ w = w' := by
  have HI := Lib.hid (is_nob z w h)
  clear h
  go_enter Try.func19, Try.ntmps19
  go_wp2_with (go_at_call 23; refine HI.out.mono ?_; rintro e w' ⟨rfl, rfl⟩)
  go_end0
  exact ⟨rfl, rfl⟩
theorem heal_nob (z : Value) (w : World) (h : Nob z w) : Calls Try.prog 20 #[z] w fun e w' => e = .returned (.tuple #[]) ∧ w = w' := by
  have HI := Lib.hid (is_nob z w h)
  clear h
  go_enter Try.func20, Try.ntmps20
  go_wp2_with (go_at_call 23; refine HI.out.mono ?_; rintro e w' ⟨rfl, rfl⟩)
  go_end0
  exact ⟨rfl, rfl⟩
theorem look_nob (z : Value) (w : World) (h : Nob z w) : Calls Try.prog 10 #[z, .int .i64 0] w (NonePost w) := by
  have HI := Lib.hid (len_nob z w h)
  clear h
  go_enter Try.func10, Try.ntmps10
  go_wp2_with (go_at_call 16; refine HI.out.mono ?_; rintro e w' ⟨rfl, rfl⟩)
  exact bodyPost_ret (v := .tuple #[.int .i64 0, .int .i64 0, .slice none 0 0, .bool false]) (by simp [results, Try.results10, go_sem]) rfl ⟨rfl, rfl⟩
theorem post_nob (z a b v : Value) (w : World) (h : Nob z w) : Calls Try.prog 12 #[z, a, b, v] w (BoolSame false w) := by
  have HI := Lib.hid (is_nob z w h)
  clear h
  go_enter Try.func12, Try.ntmps12
  go_wp2_with (go_at_call 23; refine HI.out.mono ?_; rintro e w' ⟨rfl, rfl⟩)
  go_ret
  exact ⟨rfl, rfl⟩
theorem drop_nob (z : Value) (w : World) (h : Nob z w) : Calls Try.prog 14 #[z, .int .i64 0] w (BoolSame false w) := by
  have HI := Lib.hid (len_nob z w h)
  clear h
  go_enter Try.func14, Try.ntmps14
  go_wp2_with (go_at_call 16; refine HI.out.mono ?_; rintro e w' ⟨rfl, rfl⟩)
  go_ret
  exact ⟨rfl, rfl⟩
theorem twice_nob (z : Value) (w : World) (h : Nob z w) : Calls Try.prog 11 #[z, .int .i64 0] w (BoolSame false w) := by
  have HI := Lib.hid (look_nob z w h)
  clear h
  go_enter Try.func11, Try.ntmps11
  go_wp2_with (go_at_call 10; refine HI.out.mono ?_; rintro e w' ⟨rfl, rfl⟩)
  go_ret
  exact ⟨rfl, rfl⟩
theorem parted_nob (z : Value) (a b : Int) (w : World) (h : Nob z w) : Calls Try.prog 17 #[z, .int .i64 a, .int .i64 b] w (Ans (.bool false) w) := by
  have HQ : ∀ n, Calls Try.prog 23 #[z] (w.drewN n) fun e w' => e = .returned (.bool false) ∧ w' = w.drewN n :=
    fun n => (is_nob z (w.drewN n) (h.below ⟨rfl, rfl, rfl, Nat.le_refl _, fun _ _ => rfl⟩)).mono fun e w' h => ⟨h.1, h.2.symm⟩
  clear h
  go_enter Try.func17, Try.ntmps17
  go_wp2_with fail
  go_quiet (first | (go_at_call 23; refine Calls.quiet_of_same (HQ _)))
  go_wp2_with fail
  go_ret
  exact ⟨rfl, rfl, rfl, rfl, Nat.le_refl _, fun _ _ => rfl⟩
theorem deliver_nob (z : Value) (w : World) (h : Nob z w) : Calls Try.prog 9 #[z, .int .i64 0] w (Ans (.tuple #[.int .i64 0, .int .i64 0, .slice none 0 0, .bool false]) w) := by
  have H1 := Lib.hid (look_nob z w h)
  have H2 := Lib.hid (drop_nob z w h)
  have H3 := Lib.hid (parted_nob z 0 0 w h)
  clear h
  go_enter Try.func9, Try.ntmps9
  go_wp2_with (first | (go_at_call 10; refine H1.out.mono ?_; rintro e w' ⟨rfl, rfl⟩) | (go_at_call 14; refine H2.out.mono ?_; rintro e w' ⟨rfl, rfl⟩) | (go_at_call 17; refine H3.out.mono ?_; rintro e w3 ⟨rfl, hb3⟩))
  exact bodyPost_ret (v := .tuple #[.int .i64 0, .int .i64 0, .slice none 0 0, .bool false]) (by simp [results, Try.results9, go_sem]) rfl ⟨rfl, hb3⟩
theorem clear_nob (z : Value) (a : Int) (w : World) (h : Nob z w) : Calls Try.prog 21 #[z, .int .i64 a] w (Ans (.int .i64 0) w) := by
  have HI := Lib.hid (fun w' (hb : Below w.heap.size w w') => len_nob z w' (h.below hb))
  have hb0 : ∀ o, Below w.heap.size w (w.alloc o) := fun o => (Below.refl _ _).alloc (Nat.le_refl _) _
  clear h
  go_enter Try.func21, Try.ntmps21
  go_wp2_with (go_at_call 16; refine (HI.out _ (hb0 _)).mono ?_; rintro e w' ⟨rfl, rfl⟩)
  go_ret
  exact ⟨rfl, hb0 _⟩

theorem walk (d a b : Int) (c : Value) (hc : ∃ A n k, c = .slice A n k) (w : World) : Calls Try.prog 7 #[.agg #[.int .i64 d, .int .i64 a, .int .i64 b, c]] w fun e w' => e = .returned (.bool true) ∧ Below w.heap.size w w' := by
  obtain ⟨A, n, k, rfl⟩ := hc
  have HPart := Lib.hid (fun (z : Value) (w' : World) (h : Nob z w') => part_nob z 1 2 w' h)
  have HHeal := Lib.hid heal_nob
  have HLook := Lib.hid look_nob
  have HDel := Lib.hid deliver_nob
  have HPost := Lib.hid post_nob
  have HLen := Lib.hid len_nob
  have HDrop := Lib.hid drop_nob
  have HTwice := Lib.hid twice_nob
  have HParted := Lib.hid (fun (z : Value) (w' : World) (h : Nob z w') => parted_nob z 1 2 w' h)
  have HClear := Lib.hid clear_nob
  obtain ⟨O, hO⟩ : ∃ O, O = Obj.cells #[Value.int .i64 d, .int .i64 a, .int .i64 b, .slice A n k] 28 := ⟨_, rfl⟩
  have HB : Hid (Below w.heap.size w (w.alloc O)) := (Below.refl _ _).alloc (Nat.le_refl _) _
  have HC : Hid (∀ w', Below (w.heap.size + 1) (w.alloc O) w' → w'.cell? ⟨w.heap.size, 1, none⟩ = some (.int .i64 a) ∧ w'.cell? ⟨w.heap.size, 2, none⟩ = some (.int .i64 b) ∧ w'.cell? ⟨w.heap.size, 3, none⟩ = some (.slice A n k)) := fun w' h => by
    have hh : w'.heap[w.heap.size]? = some (.cells #[Value.int .i64 d, .int .i64 a, .int .i64 b, .slice A n k] 28 (0, 0)) := by
      rw [h.block _ (Nat.lt_succ_self _), hO]; exact heap_alloc_new w _
    exact ⟨by rw [cell_of_row w' _ 1 _ _ _ hh]; rfl, by rw [cell_of_row w' _ 2 _ _ _ hh]; rfl, by rw [cell_of_row w' _ 3 _ _ _ hh]; rfl⟩
  have HS : Hid (Below (w.heap.size + 1) (w.alloc O) (w.alloc O)) := Below.refl _ _
  have HSz : Hid ((w.alloc O).heap.size = w.heap.size + 1) := by show _ = _; simp
  go_enter Try.func7, Try.ntmps7
  go_wp2_with fail
  rw [← hO]
  generalize hW1 : w.alloc O = W1 at *
  clear hW1
  have HT : Hid (∀ u u', Below (w.heap.size + 1) W1 u → Below u.heap.size u u' → Below (w.heap.size + 1) W1 u') := fun u u' h h' => h.trans (h'.mono (by rw [← HSz.out]; exact h.size))
  go_loopw [3] (fun i wr => ∃ j : Nat, i = .int .i64 j ∧ j ≤ 2 ∧ Hid (Below (w.heap.size + 1) W1 wr)) (fun i _ => 2 - (intOf i).toNat)
  case atStart => exact ⟨0, rfl, Nat.zero_le _, HS⟩
  case round =>
    obtain ⟨j, rfl, hjk, HJ⟩ := hrel
    obtain ⟨wL, rfl⟩ : ∃ wo : World, wo = wr := ⟨_, rfl⟩
    have HLe : w.heap.size + 1 ≤ wL.heap.size := by rw [← HSz.out]; exact HJ.out.size
    obtain rfl | rfl | rfl : j = 0 ∨ j = 1 ∨ j = 2 := by omega
    · go_wp2_with (first
        | (go_at_call 19; refine (HPart.out _ _ ?_).mono ?_; (exact .inl rfl); rintro e w1 ⟨rfl, rfl⟩)
        | (go_at_call 20; refine (HHeal.out _ _ ?_).mono ?_; (exact .inl rfl); rintro e w1 ⟨rfl, rfl⟩)
        | (go_at_call 10; refine (HLook.out _ _ ?_).mono ?_; (exact .inl rfl); rintro e w1 ⟨rfl, rfl⟩)
        | (go_at_call 9; refine (HDel.out _ _ ?_).mono ?_; (exact .inl rfl); rintro e w1 ⟨rfl, hb1⟩; have hbw1 := HT.out _ _ HJ.out hb1; obtain ⟨k1, k2, k3⟩ := HC.out w1 hbw1)
        | (go_at_call 12; refine (HPost.out _ _ _ _ w1 ?_).mono ?_; (exact Nob.below (.inl rfl) hb1); rintro e w2 ⟨rfl, rfl⟩)
        | (go_at_call 16; refine (HLen.out _ w1 ?_).mono ?_; (exact Nob.below (.inl rfl) hb1); rintro e w2 ⟨rfl, rfl⟩)
        | (go_at_call 14; refine (HDrop.out _ w1 ?_).mono ?_; (exact Nob.below (.inl rfl) hb1); rintro e w2 ⟨rfl, rfl⟩)
        | (go_at_call 11; refine (HTwice.out _ w1 ?_).mono ?_; (exact Nob.below (.inl rfl) hb1); rintro e w2 ⟨rfl, rfl⟩)
        | (go_at_call 17; refine (HParted.out _ w1 ?_).mono ?_; (exact Nob.below (.inl rfl) hb1); rintro e w2 ⟨rfl, hb2⟩; have hbw2 := HT.out w1 w2 hbw1 hb2; obtain ⟨m1, _, _⟩ := HC.out w2 hbw2)
        | (go_at_call 21; refine (HClear.out _ _ w2 ?_).mono ?_; (exact Nob.below (Nob.below (.inl rfl) hb1) hb2); rintro e w3 ⟨rfl, hb3⟩))
      go_roundw
      case rel => exact ⟨1, rfl, by omega, HT.out _ _ hbw2 hb3⟩
      case measure => simp [intOf]
    · go_wp2_with (first
        | (go_at_call 19; refine (HPart.out _ _ ?_).mono ?_; (exact .inr ⟨_, rfl, heap_alloc_new _ _⟩); rintro e w1 ⟨rfl, rfl⟩)
        | (go_at_call 20; refine (HHeal.out _ _ ?_).mono ?_; (exact .inr ⟨_, rfl, heap_alloc_new _ _⟩); rintro e w1 ⟨rfl, rfl⟩)
        | (go_at_call 10; refine (HLook.out _ _ ?_).mono ?_; (exact .inr ⟨_, rfl, heap_alloc_new _ _⟩); rintro e w1 ⟨rfl, rfl⟩)
        | (go_at_call 9; refine (HDel.out _ _ ?_).mono ?_; (exact .inr ⟨_, rfl, heap_alloc_new _ _⟩); rintro e w1 ⟨rfl, hb1⟩; have hbw1 := HT.out _ _ (HJ.out.alloc HLe _) hb1; obtain ⟨k1, k2, k3⟩ := HC.out w1 hbw1)
        | (go_at_call 12; refine (HPost.out _ _ _ _ w1 ?_).mono ?_; (exact Nob.below (.inr ⟨_, rfl, heap_alloc_new _ _⟩) hb1); rintro e w2 ⟨rfl, rfl⟩)
        | (go_at_call 16; refine (HLen.out _ w1 ?_).mono ?_; (exact Nob.below (.inr ⟨_, rfl, heap_alloc_new _ _⟩) hb1); rintro e w2 ⟨rfl, rfl⟩)
        | (go_at_call 14; refine (HDrop.out _ w1 ?_).mono ?_; (exact Nob.below (.inr ⟨_, rfl, heap_alloc_new _ _⟩) hb1); rintro e w2 ⟨rfl, rfl⟩)
        | (go_at_call 11; refine (HTwice.out _ w1 ?_).mono ?_; (exact Nob.below (.inr ⟨_, rfl, heap_alloc_new _ _⟩) hb1); rintro e w2 ⟨rfl, rfl⟩)
        | (go_at_call 17; refine (HParted.out _ w1 ?_).mono ?_; (exact Nob.below (.inr ⟨_, rfl, heap_alloc_new _ _⟩) hb1); rintro e w2 ⟨rfl, hb2⟩; have hbw2 := HT.out w1 w2 hbw1 hb2; obtain ⟨m1, _, _⟩ := HC.out w2 hbw2)
        | (go_at_call 21; refine (HClear.out _ _ w2 ?_).mono ?_; (exact Nob.below (Nob.below (.inr ⟨_, rfl, heap_alloc_new _ _⟩) hb1) hb2); rintro e w3 ⟨rfl, hb3⟩))
      go_roundw
      case rel => exact ⟨2, rfl, by omega, HT.out _ _ hbw2 hb3⟩
      case measure => simp [intOf]
    · go_wp2_with (go_at_call 13; refine (awake_any _).mono ?_; rintro e w9 ⟨rfl, hb9⟩)
      go_ret
      exact ⟨rfl, (HB.out.trans (HJ.out.mono (Nat.le_succ _))).trans (hb9.mono (Nat.le_trans (Nat.le_succ _) HLe))⟩

theorem cellsAct : Try.prog.cellsOf 28 = 4 := by kernel_rfl

set_option maxRecDepth 100000 in
theorem lifted (os : Os) (started : os.Started) (H : Type) (enc : TypeId × Value → H) :
    ReturnsInHanded {} Try.checked os 7 .any (Rows.flightNobodySpec.pre6 enc Try.prog Try.f7 Rows.flightNobodyRow.domain false) (Rows.flightNobodySpec.post enc Try.prog Try.f7 false true false false) := by
  refine returnsInHanded_of_change_sized (C := Try.checked) Law.own started (by kernel_rfl) Try.func7
    (ChangeSpec.witness6 (enc := enc) (C := Try.checked) false ⟨#[], #[.agg #[.int .i64 0, .int .i64 0, .int .i64 0, .slice none 0 0]], []⟩ 8 (by kernel_rfl) (by kernel_rfl) (by kernel_rfl) (by kernel_rfl)) ?_
  intro W base args ds gs before hval0 hW hcnd hsz _
  have hval : ∀ (j : Nat) t v, Try.f7.params[j]? = some t → args[j]? = some v → Value.okWide Try.prog W .any base t v := hval0
  have hW' := hW
  obtain ⟨p, q, hA0, hV, rfl, hfz, hnd⟩ := hW
  have hA : DataW.TrodAll enc Try.prog W 0 (fun _ => true) true Try.f7.params.toList args.toList ds p := hA0
  rw [Try.params7] at hA hval
  obtain ⟨v0, vs0, d0, ds0, p0, q0, hargs, rfl, rfl, h0, r0⟩ := trodAll_cons hA
  obtain ⟨rfl, rfl, rfl⟩ := trodAll_nil r0
  obtain rfl : args = #[v0] := by cases args; simp_all
  obtain ⟨rfl, rfl⟩ := trodVars_none hV
  obtain ⟨c0, c1, c2, c3, y0, y1, y2, y3, m, rfl, rfl, rfl, t0, t1, t2, t3⟩ := Go.Joins.open_agg4 Try.underlying28 (by kernel_rfl) cellsAct (hval 0 28 v0 rfl rfl) h0
  obtain ⟨a0, hc0, _⟩ := DataW.trod_int Try.underlying3 t0
  obtain ⟨a1, hc1, _⟩ := DataW.trod_int Try.underlying3 t1
  obtain ⟨a2, hc2, _⟩ := DataW.trod_int Try.underlying3 t2
  obtain rfl : c0 = .int .i64 a0 := by simpa using hc0
  obtain rfl : c1 = .int .i64 a1 := by simpa using hc1
  obtain rfl : c2 = .int .i64 a2 := by simpa using hc2
  have hc3 : ∃ A n k, c3 = .slice A n k := by
    rcases DataW.trod_slice Try.underlying26 t3 with ⟨h, _⟩ | ⟨a, len, cap, elems, rest, n, _, h, _⟩
    · exact ⟨none, 0, 0, by simpa using h⟩
    · exact ⟨some a, len, cap, by simpa using h⟩
  exact (walk a0 a1 a2 c3 hc3 W).mono fun e W' ⟨he, hb⟩ => ⟨_, he, Law.post hW' (by kernel_rfl) rfl rfl (by kernel_rfl) hb⟩

theorem proved : Rows.FlightNobodySaid :=
  OpenClaim.holds_of_wide 7 Try.f7 rfl rfl rfl rfl rfl rfl rfl ⟨rfl, rfl, rfl, rfl, rfl⟩ rfl rfl rfl rfl rfl (by kernel_rfl) Try.func7 (by kernel_rfl)
    (of_decide_eq_true (by kernel_rfl)) (by unfold Func.isWrapper; first | (rw [if_pos (by decide +kernel)]; kernel_rfl) | (rw [if_neg (by decide +kernel)]; exact ⟨rfl, rfl⟩))
    (fun os started H enc _ => lifted os started H enc)
#print axioms proved
end Go.Proofs.Ytlieepbmmfdeoaa.flightNobody
