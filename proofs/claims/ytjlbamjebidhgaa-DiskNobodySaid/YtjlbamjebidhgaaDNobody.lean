/- DiskNobody: the methods on a disk that nobody made; the walk and the row. -/
import Derived.Test.YtjlbamjebidhgaaDAwake
import Derived.Test.YtjlbamjebidhgaaActs7
import Derived.Test.YtjlbamjebidhgaaLaw
import Derived.Lib.SmallJoins
import Derived.Deep.CondSized
namespace Go.Proofs.Ytjlbamjebidhgaa.diskNobody
open Go.RowKit Own
open Go.ChangeShapes Go.WideShapes Go.ChangeAt

/-- a disk that nobody made: no pointer, or an empty one -/
def Nob (B : Nat) (z : Value) (w : World) : Prop := z = .pointer none ∨ ∃ b, z = .pointer (some ⟨b, 0, none⟩) ∧ B ≤ b ∧ w.heap[b]? = some (.cells #[.slice none 0 0, .slice none 0 0] 53 (0, 0))
theorem Nob.below {B : Nat} {z : Value} {w w' : World} (h : Nob B z w) (hb : Below w.heap.size w w') : Nob B z w' := by
  rcases h with h | ⟨b, hz, hB, hh⟩
  · exact .inl h
  · exact .inr ⟨b, hz, hB, (hb.block b (Array.getElem?_eq_some_iff.1 hh).1).trans hh⟩
def Same (v : Value) (w : World) (e : Ending) (w' : World) : Prop := e = .returned v ∧ w = w'
def Stays (B : Nat) (z : Value) (w : World) (e : Ending) (w' : World) : Prop := e = .returned (.tuple #[]) ∧ Nob B z w' ∧ Below B w w'
theorem size_nob {B : Nat} (z : Value) (w : World) (h : Nob B z w) : Calls Try.prog 19 #[z] w (Same (.int .i64 0) w) := by
  rcases h with rfl | ⟨b, rfl, _, hh⟩
  · go_enter Try.func19, Try.ntmps19
    go_wp2_with fail
    go_ret
    exact ⟨rfl, rfl⟩
  · have hc0 : w.cell? ⟨b, 0, none⟩ = some (.slice none 0 0) := by rw [cell_of_row w b 0 _ _ _ hh]; rfl
    clear hh
    go_enter Try.func19, Try.ntmps19
    go_wp2_with fail
    go_ret
    exact ⟨rfl, rfl⟩
theorem has_nob {B : Nat} (z : Value) (a : Int) (w : World) (h : Nob B z w) : Calls Try.prog 21 #[z, .int .i64 a] w (Same (.bool false) w) := by
  have HS := Lib.hid (size_nob z w h)
  clear h
  by_cases h0 : 0 ≤ a
  · have e1 : decide (a < 0) = false := decide_eq_false (by omega)
    go_enter Try.func21, Try.ntmps21
    go_wp2_with (go_at_call 19; refine HS.out.mono ?_; rintro e w' ⟨rfl, rfl⟩)
    go_ret
    exact ⟨rfl, rfl⟩
  · have e0 : decide (0 ≤ a) = false := decide_eq_false h0
    clear h0
    go_enter Try.func21, Try.ntmps21
    go_wp2_with fail
    go_ret
    exact ⟨rfl, rfl⟩
theorem write_nob {B : Nat} (z v : Value) (a : Int) (w : World) (h : Nob B z w) : Calls Try.prog 8 #[z, .int .i64 a, v] w (Same (.int .i64 1) w) := by
  have HS := Lib.hid (has_nob z a w h)
  clear h
  go_enter Try.func8, Try.ntmps8
  go_wp2_with (go_at_call 21; refine HS.out.mono ?_; rintro e w' ⟨rfl, rfl⟩)
  go_ret
  exact ⟨rfl, rfl⟩
theorem read_nob {B : Nat} (z : Value) (a : Int) (w : World) (h : Nob B z w) : Calls Try.prog 12 #[z, .int .i64 a] w (Same (.tuple #[.slice none 0 0, .int .i64 1]) w) := by
  have HS := Lib.hid (has_nob z a w h)
  clear h
  go_enter Try.func12, Try.ntmps12
  go_wp2_with (go_at_call 21; refine HS.out.mono ?_; rintro e w' ⟨rfl, rfl⟩)
  go_ret2
  exact ⟨rfl, rfl⟩
theorem pending_nob {B : Nat} (z : Value) (w : World) (h : Nob B z w) : Calls Try.prog 16 #[z] w (Same (.int .i64 0) w) := by
  rcases h with rfl | ⟨b, rfl, _, hh⟩
  · go_enter Try.func16, Try.ntmps16
    go_wp2_with fail
    go_ret
    exact ⟨rfl, rfl⟩
  · have hc1 : w.cell? ⟨b, 1, none⟩ = some (.slice none 0 0) := by rw [cell_of_row w b 1 _ _ _ hh]; rfl
    clear hh
    go_enter Try.func16, Try.ntmps16
    go_wp2_with fail
    go_ret
    exact ⟨rfl, rfl⟩
theorem rot_nob {B : Nat} (z : Value) (a x : Int) (w : World) (h : Nob B z w) : Calls Try.prog 20 #[z, .int .i64 a, .int .u8 x] w (Same (.int .i64 1) w) := by
  rcases h with rfl | ⟨b, rfl, _, hh⟩
  · go_enter Try.func20, Try.ntmps20
    go_wp2_with fail
    go_ret
    exact ⟨rfl, rfl⟩
  · have hc0 : w.cell? ⟨b, 0, none⟩ = some (.slice none 0 0) := by rw [cell_of_row w b 0 _ _ _ hh]; rfl
    clear hh
    by_cases h0 : a < 0
    · go_enter Try.func20, Try.ntmps20
      go_wp2_with fail
      go_ret
      exact ⟨rfl, rfl⟩
    · have h1 : (0 : Int) ≤ a := by omega
      go_enter Try.func20, Try.ntmps20
      go_wp2_with fail
      go_ret
      exact ⟨rfl, rfl⟩
theorem dump_nob {B : Nat} (z : Value) (w : World) (h : Nob B z w) : Calls Try.prog 13 #[z] w (fun e w' => e = .returned (.slice none 0 0) ∧ Below w.heap.size w w') := by
  rcases h with rfl | ⟨b, rfl, _, hh⟩
  · go_enter Try.func13, Try.ntmps13
    go_wp2_with fail
    go_ret
    exact ⟨rfl, Below.refl _ _⟩
  · have hc0 : w.cell? ⟨b, 0, none⟩ = some (.slice none 0 0) := by rw [cell_of_row w b 0 _ _ _ hh]; rfl
    have HC := Lib.hid (clone_any (.slice none 0 0) [] w (.inl ⟨rfl, rfl⟩) (by decide))
    clear hh
    go_enter Try.func13, Try.ntmps13
    go_wp2_with (go_at_call 22; refine HC.out.mono ?_; rintro e w' ⟨v, rfl, hown, hb, hnil⟩; obtain rfl := hnil.2 rfl)
    go_ret
    exact ⟨rfl, hb⟩
theorem crash_nob {B : Nat} (z v : Value) (w : World) (h : Nob B z w) : Calls Try.prog 11 #[z, v] w (Stays B z w) := by
  rcases h with rfl | ⟨b, rfl, hb, hh⟩
  · go_enter Try.func11, Try.ntmps11
    go_wp2_with fail
    go_end0
    exact ⟨rfl, .inl rfl, Below.refl _ _⟩
  · have hc1 : w.cell? ⟨b, 1, none⟩ = some (.slice none 0 0) := by rw [cell_of_row w b 1 _ _ _ hh]; rfl
    have hz := frozen_of_block hh 1
    have HS : Hid (Stays B (.pointer (some ⟨b, 0, none⟩)) w (.returned (.tuple #[])) (w.setCell ⟨b, 1, none⟩ (.slice none 0 0))) :=
      ⟨rfl, .inr ⟨b, rfl, hb, by have := Own.heap_setCell_same hh 1 (.slice none 0 0); simpa using this⟩, (Below.refl _ _).setCell hb _⟩
    clear hh hb
    go_enter Try.func11, Try.ntmps11
    go_wp2_with fail
    go_loopw [13] (fun i wr => i = .int .i64 0 ∧ wr = w) (fun _ _ => 0)
    case atStart => exact ⟨rfl, rfl⟩
    case round =>
      obtain ⟨rfl, rfl⟩ := hrel
      go_wp2_with fail
      go_end0
      exact HS.out
theorem flush_nob {B : Nat} (z : Value) (w : World) (hB : B ≤ w.heap.size) (h : Nob B z w) : Calls Try.prog 10 #[z] w (Stays B z w) := by
  rcases h with rfl | ⟨b, rfl, hb, hh⟩
  · go_enter Try.func10, Try.ntmps10
    go_wp2_with fail
    go_end0
    exact ⟨rfl, .inl rfl, Below.refl _ _⟩
  · have hbl : b < w.heap.size := (Array.getElem?_eq_some_iff.1 hh).1
    obtain ⟨O, hO⟩ : ∃ O, O = Obj.cells #[Value.bool true] 4 := ⟨_, rfl⟩
    have hb0 : Below w.heap.size w (w.alloc O) := (Below.refl _ _).alloc (Nat.le_refl _) _
    have hc1 : (w.alloc O).cell? ⟨b, 1, none⟩ = some (.slice none 0 0) := by rw [cell_of_row _ b 1 _ _ _ ((hb0.block b hbl).trans hh)]; rfl
    have hcb : (w.alloc O).cell? ⟨w.heap.size, 0, none⟩ = some (.bool true) := by rw [hO, cell_of_row _ _ 0 _ _ (0, 0) (heap_alloc_new w _)]; rfl
    have HR := Lib.hid (repeat_any w.heap.size 0 (w.alloc O) hcb (by decide))
    have HC : Hid (∀ v w1, Below (w.alloc O).heap.size (w.alloc O) w1 → Calls Try.prog 11 #[.pointer (some ⟨b, 0, none⟩), v] w1 (Stays B (.pointer (some ⟨b, 0, none⟩)) w)) := fun v w1 hb1 => by
      have hbw : Below w.heap.size w w1 := hb0.trans (hb1.mono hb0.size)
      refine (crash_nob _ v w1 (Nob.below (.inr ⟨b, rfl, hb, hh⟩) hbw)).mono ?_
      rintro e w' ⟨rfl, hn, hbb⟩
      exact ⟨rfl, hn, (hbw.mono hB).trans hbb⟩
    rw [hO] at HR HC hc1
    have HR : Hid (Calls Try.prog 23 #[.slice (some ⟨w.heap.size, 0, none⟩) 1 1, .int .i64 0] (w.alloc (.cells #[.bool true] 4)) (RepPost 0 (w.alloc (.cells #[.bool true] 4)))) := HR.out
    clear hh hB hb hO hb0 hcb
    go_enter Try.func10, Try.ntmps10
    go_wp2_with (first
      | (go_at_call 23; refine HR.out.mono ?_; rintro e w1 ⟨v, rfl, hv, hb1⟩)
      | (go_at_call 11; refine (HC.out v w1 hb1).mono ?_; rintro e w2 ⟨rfl, hn2, hb2⟩))
    go_end0
    exact ⟨rfl, hn2, hb2⟩
set_option maxRecDepth 100000 in
theorem walk (d a x : Int) (A2 : Option Addr) (m2 n2 : Nat) (A4 : Option Addr) (m4 n4 : Nat) (w : World) : Calls Try.prog 6 #[.agg #[.int .i64 d, .int .i64 a, .slice A2 m2 n2, .int .u8 x, .slice A4 m4 n4]] w fun e w' => e = .returned (.bool true) ∧ Below w.heap.size w w' := by
  obtain ⟨O, hO⟩ : ∃ O, O = Obj.cells #[Value.int .i64 d, .int .i64 a, .slice A2 m2 n2, .int .u8 x, .slice A4 m4 n4] 31 := ⟨_, rfl⟩
  have HB : Hid (Below w.heap.size w (w.alloc O)) := (Below.refl _ _).alloc (Nat.le_refl _) _
  have HC : Hid (∀ w', Below (w.heap.size + 1) (w.alloc O) w' → w'.cell? ⟨w.heap.size, 1, none⟩ = some (.int .i64 a) ∧ w'.cell? ⟨w.heap.size, 2, none⟩ = some (.slice A2 m2 n2) ∧ w'.cell? ⟨w.heap.size, 4, none⟩ = some (.slice A4 m4 n4)) := fun w' h => by
    have hh : w'.heap[w.heap.size]? = some (.cells #[Value.int .i64 d, .int .i64 a, .slice A2 m2 n2, .int .u8 x, .slice A4 m4 n4] 31 (0, 0)) := by
      rw [h.block _ (Nat.lt_succ_self _), hO]; exact heap_alloc_new w _
    exact ⟨by rw [cell_of_row w' _ 1 _ _ _ hh]; rfl, by rw [cell_of_row w' _ 2 _ _ _ hh]; rfl, by rw [cell_of_row w' _ 4 _ _ _ hh]; rfl⟩
  have HS : Hid (Below (w.heap.size + 1) (w.alloc O) (w.alloc O)) := Below.refl _ _
  have HSz : Hid ((w.alloc O).heap.size = w.heap.size + 1) := by show _ = _; simp
  go_enter Try.func6, Try.ntmps6
  go_wp2_with fail
  rw [← hO]
  generalize hW1 : w.alloc O = W1 at *
  clear hW1 hO
  go_loopw [3] (fun i wr => ∃ j : Nat, i = .int .i64 j ∧ j ≤ 2 ∧ Hid (Below (w.heap.size + 1) W1 wr)) (fun i _ => 2 - (intOf i).toNat)
  case atStart => exact ⟨0, rfl, Nat.zero_le _, HS⟩
  case round =>
    obtain ⟨j, rfl, hjk, HJ⟩ := hrel
    obtain ⟨wL, rfl⟩ : ∃ wo : World, wo = wr := ⟨_, rfl⟩
    have HLe : w.heap.size + 1 ≤ wL.heap.size := by rw [← HSz.out]; exact HJ.out.size
    obtain ⟨rfl, z, wZ, hZ0, hz, hZB⟩ | ⟨rfl, z, wZ, hZ0, hz, hZB⟩ | rfl : (j = 0 ∧ ∃ z wZ, Nob (w.heap.size + 1) z wZ ∧ (z = .pointer none ∧ wZ = wL) ∧ Below (w.heap.size + 1) W1 wZ) ∨ (j = 1 ∧ ∃ z wZ, Nob (w.heap.size + 1) z wZ ∧ (z = .pointer (some ⟨wL.heap.size, 0, none⟩) ∧ wZ = wL.alloc (.cells #[.slice none 0 0, .slice none 0 0] 53)) ∧ Below (w.heap.size + 1) W1 wZ) ∨ j = 2 := by
      rcases (by omega : j = 0 ∨ j = 1 ∨ j = 2) with h | h | h
      · exact .inl ⟨h, _, _, .inl rfl, ⟨rfl, rfl⟩, HJ.out⟩
      · exact .inr (.inl ⟨h, _, _, .inr ⟨_, rfl, HLe, heap_alloc_new _ _⟩, ⟨rfl, rfl⟩, HJ.out.alloc HLe _⟩)
      · exact .inr (.inr h)
    · obtain ⟨rfl, rfl⟩ := hz
      have HZ := Lib.hid hZ0
      have HZB := Lib.hid hZB
      have HF := Lib.hid (flush_nob _ _ (by rw [← HSz.out]; exact hZB.size) hZ0)
      clear hZ0 hZB
      go_wp2_with (first
        | (go_at_call 10; refine HF.out.mono ?_; rintro e w1 ⟨rfl, hn1, hb1⟩; have HN1 := Lib.hid hn1; have HB1 := Lib.hid (HZB.out.trans hb1); obtain ⟨k1, k2, k4⟩ := HC.out w1 HB1.out; clear hn1 hb1 HF)
        | (go_at_call 11; refine (crash_nob _ _ w1 HN1.out).mono ?_; rintro e w2 ⟨rfl, hn2, hb2⟩; have HN2 := Lib.hid hn2; have HB2 := Lib.hid (HB1.out.trans hb2); obtain ⟨l1, l2, l4⟩ := HC.out w2 HB2.out; clear hn2 hb2)
        | (go_at_call 12; refine (read_nob _ _ w2 HN2.out).mono ?_; rintro e w3 ⟨rfl, rfl⟩)
        | (go_at_call 19; refine (size_nob _ w2 HN2.out).mono ?_; rintro e w3 ⟨rfl, rfl⟩)
        | (go_at_call 8; refine (write_nob _ _ _ w2 HN2.out).mono ?_; rintro e w3 ⟨rfl, rfl⟩)
        | (go_at_call 16; refine (pending_nob _ w2 HN2.out).mono ?_; rintro e w3 ⟨rfl, rfl⟩)
        | (go_at_call 20; refine (rot_nob _ _ _ w2 HN2.out).mono ?_; rintro e w3 ⟨rfl, rfl⟩)
        | (go_at_call 13; refine (dump_nob _ w2 HN2.out).mono ?_; rintro e w3 ⟨rfl, hb3⟩))
      go_roundw
      case rel => exact ⟨1, rfl, by omega, HB2.out.trans (hb3.mono (by rw [← HSz.out]; exact HB2.out.size))⟩
      case measure => simp [intOf]
    · obtain ⟨rfl, rfl⟩ := hz
      have HZ := Lib.hid hZ0
      have HZB := Lib.hid hZB
      have HF := Lib.hid (flush_nob _ _ (by rw [← HSz.out]; exact hZB.size) hZ0)
      clear hZ0 hZB
      go_wp2_with (first
        | (go_at_call 10; refine HF.out.mono ?_; rintro e w1 ⟨rfl, hn1, hb1⟩; have HN1 := Lib.hid hn1; have HB1 := Lib.hid (HZB.out.trans hb1); obtain ⟨k1, k2, k4⟩ := HC.out w1 HB1.out; clear hn1 hb1 HF)
        | (go_at_call 11; refine (crash_nob _ _ w1 HN1.out).mono ?_; rintro e w2 ⟨rfl, hn2, hb2⟩; have HN2 := Lib.hid hn2; have HB2 := Lib.hid (HB1.out.trans hb2); obtain ⟨l1, l2, l4⟩ := HC.out w2 HB2.out; clear hn2 hb2)
        | (go_at_call 12; refine (read_nob _ _ w2 HN2.out).mono ?_; rintro e w3 ⟨rfl, rfl⟩)
        | (go_at_call 19; refine (size_nob _ w2 HN2.out).mono ?_; rintro e w3 ⟨rfl, rfl⟩)
        | (go_at_call 8; refine (write_nob _ _ _ w2 HN2.out).mono ?_; rintro e w3 ⟨rfl, rfl⟩)
        | (go_at_call 16; refine (pending_nob _ w2 HN2.out).mono ?_; rintro e w3 ⟨rfl, rfl⟩)
        | (go_at_call 20; refine (rot_nob _ _ _ w2 HN2.out).mono ?_; rintro e w3 ⟨rfl, rfl⟩)
        | (go_at_call 13; refine (dump_nob _ w2 HN2.out).mono ?_; rintro e w3 ⟨rfl, hb3⟩))
      go_roundw
      case rel => exact ⟨2, rfl, by omega, HB2.out.trans (hb3.mono (by rw [← HSz.out]; exact HB2.out.size))⟩
      case measure => simp [intOf]
    · go_wp2_with (go_at_call 9; refine (awake_any _).mono ?_; rintro e w9 ⟨rfl, hb9⟩)
      go_ret
      exact ⟨rfl, (HB.out.trans (HJ.out.mono (Nat.le_succ _))).trans (hb9.mono (Nat.le_trans (Nat.le_succ _) HLe))⟩

set_option maxRecDepth 100000 in
theorem lifted (os : Os) (started : os.Started) (H : Type) (enc : TypeId × Value → H) :
    ReturnsInHanded {} Try.checked os 6 .any (Rows.diskNobodySpec.pre6 enc Try.prog Try.f6 Rows.diskNobodyRow.domain false) (Rows.diskNobodySpec.post enc Try.prog Try.f6 false true false false) := by
  refine returnsInHanded_of_change_sized (C := Try.checked) Law.own started (by kernel_rfl) Try.func6
    (ChangeSpec.witness6 (enc := enc) (C := Try.checked) false ⟨#[], #[.agg #[.int .i64 0, .int .i64 0, .slice none 0 0, .int .u8 0, .slice none 0 0]], []⟩ 8 (by kernel_rfl) (by kernel_rfl) (by kernel_rfl) (by kernel_rfl)) ?_
  intro W base args ds gs before hval0 hW hcnd hsz _
  have hval : ∀ (j : Nat) t v, Try.f6.params[j]? = some t → args[j]? = some v → Value.okWide Try.prog W .any base t v := hval0
  have hW' := hW
  obtain ⟨p, q, hA0, hV, rfl, hfz, hnd⟩ := hW
  have hA : DataW.TrodAll enc Try.prog W 0 (fun _ => true) true Try.f6.params.toList args.toList ds p := hA0
  rw [Try.params6] at hA hval
  obtain ⟨v0, vs0, d0, ds0, p0, q0, hargs, rfl, rfl, h0, r0⟩ := trodAll_cons hA
  obtain ⟨rfl, rfl, rfl⟩ := trodAll_nil r0
  obtain rfl : args = #[v0] := by cases args; simp_all
  obtain ⟨rfl, rfl⟩ := trodVars_none hV
  obtain ⟨x, c2, c4, hok, rfl, hr, hrc⟩ := open_act_val (hval 0 31 v0 rfl rfl) h0 (fun y hy => by
    have := List.all_eq_true.1 hsz y (DataW.weights_mem_each (j := 0) rfl rfl y hy)
    simpa using this)
  obtain ⟨A2, n2, rfl⟩ := hr.slice
  obtain ⟨A4, n4, rfl⟩ := hrc.slice
  exact (walk x.d x.a x.x.toNat A2 _ n2 A4 _ n4 W).mono fun e W' ⟨he, hb⟩ => ⟨_, he, Law.post hW' (by kernel_rfl) rfl rfl (by kernel_rfl) hb⟩

theorem proved : Rows.DiskNobodySaid :=
  OpenClaim.holds_of_wide 6 Try.f6 rfl rfl rfl rfl rfl rfl rfl ⟨rfl, rfl, rfl, rfl, rfl⟩ rfl rfl rfl rfl rfl (by kernel_rfl) Try.func6 (by kernel_rfl)
    (of_decide_eq_true (by kernel_rfl)) (by unfold Func.isWrapper; first | (rw [if_pos (by decide +kernel)]; kernel_rfl) | (rw [if_neg (by decide +kernel)]; exact ⟨rfl, rfl⟩))
    (fun os started H enc _ => lifted os started H enc)
#print axioms proved
end Go.Proofs.Ytjlbamjebidhgaa.diskNobody
