/- FlightOnce: the walk and the row. -/
import Derived.Test.YtlieepbmmfdeoaaOnce2
import Derived.Deep.CondSized
namespace Go.Proofs.Ytlieepbmmfdeoaa.flightOnce
open Go.RowKit Own
open Go.ChangeShapes Go.WideShapes Go.ChangeAt

set_option maxHeartbeats 4000000 in
set_option maxRecDepth 100000 in
theorem walk (v : Value) (xs : List ActIn) (hok : ∀ x ∈ xs, ActOk x) (w : World) (hv : ReadsActs w v xs) :
    Calls Try.prog 3 #[v] w fun e w' => e = .returned (.bool true) ∧ Below w.heap.size w w' := by
  have HN := Lib.hid (fun w => fl_new w)
  have hmm := @run_makeMap Try.prog
  obtain ⟨Av, cv, rfl⟩ := hv.slice
  have HV := Lib.hid hv
  have HO := Lib.hid hok
  clear hv hok
  go_enter Try.func3, Try.ntmps3
  go_wp2_with (go_at_call 8; refine (HN.out _).mono ?_; rintro e w1 ⟨fb, mb, rfl, h1⟩; have HS := Lib.hid (Inv.start h1); clear h1)
  generalize w1.heap.size = lb at *
  generalize w1.alloc (.map #[] 0) = W0 at *
  clear hmm
  go_loopw [5] (fun i wr => ∃ j : Nat, i = .int .i64 j ∧ j ≤ 500 ∧ j ≤ xs.length ∧ Hid (Inv w fb mb lb j wr)) (fun i _ => xs.length - (intOf i).toNat)
  case atStart => exact ⟨0, rfl, Nat.zero_le _, Nat.zero_le _, HS⟩
  case round =>
    obtain ⟨j, rfl, hj5, hjk, HJ⟩ := hrel
    obtain ⟨wL, rfl⟩ : ∃ wo : World, wo = wr := ⟨_, rfl⟩
    clear HS
    by_cases hj : j < xs.length ∧ j < 500
    · have hj1 : (j : Int) < (xs.length : Int) := by omega
      have hj2 : (j : Int) < 500 := by omega
      have hj3 : j < xs.length := hj.1
      obtain ⟨bb, off, cb, hvv, hact⟩ := HV.out.at_ hj.1
      cases hvv
      have hxo := HO.out _ (List.getElem_mem hj.1)
      generalize xs[j]'hj.1 = x at *
      obtain ⟨dv, e0', e1', e2', e3', hrd⟩ := hact
      have hlt : bb < w.heap.size := World.block_lt_of_cell? w _ e0'
      have e0 := (HJ.out.below.cell (p := ⟨bb, off + j * 4, none⟩) hlt).trans e0'
      have e1 := (HJ.out.below.cell (p := ⟨bb, off + j * 4 + 1, none⟩) hlt).trans e1'
      have e2 := (HJ.out.below.cell (p := ⟨bb, off + j * 4 + 2, none⟩) hlt).trans e2'
      have e3 := (HJ.out.below.cell (p := ⟨bb, off + j * 4 + 3, none⟩) hlt).trans e3'
      obtain ⟨Ad, cd, rfl⟩ := hrd.slice
      have HR : Hid (∀ w', Below w.heap.size w w' → ReadsB w' (.slice Ad x.l.length cd) x.l) := fun w' h => hrd.below h
      obtain ⟨O, hO⟩ : ∃ O, O = Obj.cells #[Value.int .i64 x.d, .int .i64 x.a, .int .i64 x.b, .slice Ad x.l.length cd] 28 := ⟨_, rfl⟩
      have hh : (wL.alloc O).heap[wL.heap.size]? = some (.cells #[Value.int .i64 x.d, .int .i64 x.a, .int .i64 x.b, .slice Ad x.l.length cd] 28 (0, 0)) := by rw [hO]; exact heap_alloc_new wL _
      have HJ1 : Hid (Inv w fb mb lb j (wL.alloc O)) := HJ.out.go ((Below.refl _ _).alloc (Nat.le_refl _) _)
      have HCell : Hid (∀ w' : World, w'.heap[wL.heap.size]? = some (.cells #[Value.int .i64 x.d, .int .i64 x.a, .int .i64 x.b, .slice Ad x.l.length cd] 28 (0, 0)) → w'.cell? ⟨wL.heap.size, 1, none⟩ = some (.int .i64 x.a) ∧ w'.cell? ⟨wL.heap.size, 2, none⟩ = some (.int .i64 x.b) ∧ w'.cell? ⟨wL.heap.size, 3, none⟩ = some (.slice Ad x.l.length cd)) := fun w' hh =>
        ⟨by rw [cell_of_row _ _ 1 _ _ _ hh]; rfl, by rw [cell_of_row _ _ 2 _ _ _ hh]; rfl, by rw [cell_of_row _ _ 3 _ _ _ hh]; rfl⟩
      have n0 : (wL.alloc O).cell? ⟨wL.heap.size, 0, none⟩ = some (.int .i64 x.d) := by rw [cell_of_row _ _ 0 _ _ _ hh]; rfl
      obtain ⟨n1, n2, n3⟩ := HCell.out _ hh
      have HHh := Lib.hid hh
      clear hh hrd e0' e1' e2' e3' hlt
      rw [hO] at n0 n1 n2 n3 HHh HJ1
      clear hO
      by_cases hd1 : x.d = 1
      · have hd1' : (x.d == 1) = true := beq_iff_eq.2 hd1
        clear hd1
        obtain ⟨n, g, lv, L, hOn, hCnt, hL⟩ := HJ1.out
        by_cases hk : 0 ≤ x.a ∧ x.a < (L.length : Int)
        · obtain ⟨k, hk1⟩ := Int.eq_ofNat_of_zero_le hk.1
          have HT := Lib.hid (c_take hOn hCnt hL hj.2 k (by omega))
          rw [← hk1] at HT
          clear hOn hCnt hL hk hk1
          go_wp2_with (go_at_call 9; refine HT.out.mono ?_; rintro e w2 ⟨m, dv, rfl, hcv, c, stamp, w3, w4, hc1, hc5, ⟨l0, l1, l2, l3, l4⟩, hI⟩; unfold keyV at l0 l1 l2 l3; unfold kOf at l0 l1 l2; have hcle : decide (c ≤ 0) = false := decide_eq_false (by omega); have hwr : IntKind.i64.wrap (c - 1) = c - 1 := (by rw [IntKind.wrap_i64]; omega); have HI := Lib.hid hI.succ; clear hI)
          go_region
          all_goals
            go_wp2_with fail
            go_roundw
            case rel => exact ⟨j + 1, by go_num, by omega, by omega, HI⟩
            case measure => simp [intOf]; omega
        · have HT := Lib.hid (c_takeOut hOn hCnt hL x.a (by omega))
          clear hOn hCnt hL hk
          go_wp2_with (go_at_call 9; refine HT.out.mono ?_; rintro e w2 ⟨rfl, hI⟩; have hcv := conv_reads (w := w2) (v := .slice none 0 0) (l := []) (.inl ⟨rfl, rfl⟩); have HI := Lib.hid hI.succ; clear hI)
          go_roundw
          case rel => exact ⟨j + 1, by go_num, by omega, by omega, HI.out.go ((Below.refl _ _).alloc (Nat.le_refl _) _)⟩
          case measure => simp [intOf]; omega
      · have hd1' : (x.d == 1) = false := beq_eq_false_iff_ne.2 hd1
        clear hd1
        by_cases hd3 : x.d = 3
        · have hd3' : (x.d == 3) = true := beq_iff_eq.2 hd3
          clear hd3
          obtain ⟨n, g, lv, L, hOn, hCnt, hL⟩ := HJ1.out
          by_cases hk : 0 ≤ x.a ∧ x.a < (L.length : Int)
          · obtain ⟨k, hk1⟩ := Int.eq_ofNat_of_zero_le hk.1
            have HT := Lib.hid (c_look hOn hCnt hL hj.2 k (by omega) HHh.out)
            rw [← hk1] at HT
            clear hOn hCnt hL hk hk1
            go_wp2_with (first
              | (go_at_call 10; refine HT.out.mono ?_; rintro e w2 ⟨m, dv, rfl, ⟨Al, cl, rfl⟩, hh2, hTw⟩; obtain ⟨m1, m2, m3⟩ := HCell.out _ hh2; have HTw := Lib.hid hTw; clear hTw hh2)
              | (go_at_call 11; refine HTw.out.mono ?_; rintro e w5 ⟨rfl, hh2, hcv, c, stamp, w3, w4, hc0, hc5, ⟨l0, l1, l2, l3, l4⟩, hI⟩; unfold keyV at l0 l1 l2 l3; have hwr : IntKind.i64.wrap (c + 1) = c + 1 := (by rw [IntKind.wrap_i64]; omega); have HI := Lib.hid hI; clear hh2 hI))
            go_region
            all_goals
              go_wp2_with fail
              go_roundw
              case rel => exact ⟨j + 1, by go_num, by omega, by omega, HI⟩
              case measure => simp [intOf]; omega
          · have HT1 := Lib.hid (fl_look_out hOn.fl x.a (by omega))
            have HT2 := Lib.hid (c_twOut hOn hCnt hL x.a (by omega))
            clear hOn hCnt hL hk
            go_wp2_with (first
              | (go_at_call 10; refine HT1.out.mono ?_; rintro e w2 ⟨rfl, rfl⟩)
              | (go_at_call 11; refine HT2.out.mono ?_; rintro e w2 ⟨rfl, hI⟩; have HI := Lib.hid hI.succ; clear hI))
            go_roundw
            case rel => exact ⟨j + 1, by go_num, by omega, by omega, HI⟩
            case measure => simp [intOf]; omega
        · have hd3' : (x.d == 3) = false := beq_eq_false_iff_ne.2 hd3
          clear hd3
          go_wp2_with (go_at_call 12; refine (c_post HJ1.out hj.2 HHh.out x.a x.b _ x.l HR.out hxo.a hxo.b hxo.l).mono ?_; rintro e w2 ⟨rfl, hh2, hcv, c, stamp, w3, w4, hc0, hc5, ⟨l0, l1, l2, l3, l4⟩, hI⟩; unfold keyV at l0 l1 l2 l3; obtain ⟨m1, m2, m3⟩ := HCell.out _ hh2; have hwr : IntKind.i64.wrap (c + 1) = c + 1 := (by rw [IntKind.wrap_i64]; omega); have HI := Lib.hid hI; clear hh2 hI)
          go_region
          all_goals
            go_wp2_with fail
            go_roundw
            case rel => exact ⟨j + 1, by go_num, by omega, by omega, HI⟩
            case measure => simp [intOf]; omega
    · by_cases hj1 : j < xs.length
      · have hj2 : ¬ (j : Int) < 500 := by omega
        have hj3 : (j : Int) < (xs.length : Int) := by omega
        go_wp2_with (go_at_call 13; refine (awake_any _).mono ?_; rintro e w9 ⟨rfl, hb9⟩)
        go_ret
        exact ⟨rfl, HJ.out.below.trans (hb9.mono HJ.out.below.size)⟩
      · have hj3 : ¬ (j : Int) < (xs.length : Int) := by omega
        go_wp2_with (go_at_call 13; refine (awake_any _).mono ?_; rintro e w9 ⟨rfl, hb9⟩)
        go_ret
        exact ⟨rfl, HJ.out.below.trans (hb9.mono HJ.out.below.size)⟩

set_option maxRecDepth 100000 in
theorem lifted (os : Os) (started : os.Started) (H : Type) (enc : TypeId × Value → H) :
    ReturnsInHanded {} Try.checked os 3 .any (Rows.flightOnceSpec.pre6 enc Try.prog Try.f3 Rows.flightOnceRow.domain false) (Rows.flightOnceSpec.post enc Try.prog Try.f3 false true false false) := by
  refine returnsInHanded_of_change_sized (C := Try.checked) Law.own started (by kernel_rfl) Try.func3
    (ChangeSpec.witness6 (enc := enc) (C := Try.checked) false ⟨#[], #[.slice none 0 0], []⟩ 8 (by kernel_rfl) (by kernel_rfl) (by kernel_rfl) (by kernel_rfl)) ?_
  intro W base args ds gs before hval0 hW hcnd hsz _
  have hval : ∀ (j : Nat) t v, Try.f3.params[j]? = some t → args[j]? = some v → Value.okWide Try.prog W .any base t v := hval0
  have hW' := hW
  obtain ⟨p, q, hA0, hV, rfl, hfz, hnd⟩ := hW
  have hA : DataW.TrodAll enc Try.prog W 0 (fun _ => true) true Try.f3.params.toList args.toList ds p := hA0
  rw [Try.params3] at hA hval
  obtain ⟨v0, vs0, d0, ds0, p0, q0, hargs, rfl, rfl, h0, r0⟩ := trodAll_cons hA
  obtain ⟨rfl, rfl, rfl⟩ := trodAll_nil r0
  obtain rfl : args = #[v0] := by cases args; simp_all
  obtain ⟨rfl, rfl⟩ := trodVars_none hV
  obtain ⟨xs, hrd, hok⟩ := open_acts (hval 0 22 v0 rfl rfl) h0 (fun y hy => by
    have := List.all_eq_true.1 hsz y (DataW.weights_mem_each (j := 0) rfl rfl y hy)
    simpa using this)
  exact (walk v0 xs hok W hrd).mono fun e W' ⟨he, hb⟩ => ⟨_, he, Law.post hW' (by kernel_rfl) rfl rfl (by kernel_rfl) hb⟩

theorem proved : Rows.FlightOnceSaid :=
  OpenClaim.holds_of_wide 3 Try.f3 rfl rfl rfl rfl rfl rfl rfl ⟨rfl, rfl, rfl, rfl, rfl⟩ rfl rfl rfl rfl rfl (by kernel_rfl) Try.func3 (by kernel_rfl)
    (of_decide_eq_true (by kernel_rfl)) (by unfold Func.isWrapper; first | (rw [if_pos (by decide +kernel)]; kernel_rfl) | (rw [if_neg (by decide +kernel)]; exact ⟨rfl, rfl⟩))
    (fun os started H enc _ => lifted os started H enc)
#print axioms proved
end Go.Proofs.Ytlieepbmmfdeoaa.flightOnce
