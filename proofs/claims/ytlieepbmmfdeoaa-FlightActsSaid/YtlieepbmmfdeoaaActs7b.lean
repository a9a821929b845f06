/- The walk of the law's 'does': clear. -/
import Derived.Test.YtlieepbmmfdeoaaActs6
namespace Go.Proofs.Ytlieepbmmfdeoaa
open Go.RowKit Own

theorem offM_take (ML : List Msg) (x : Int) (j : Nat) (hj : j < ML.length) : (ML.take (j + 1)).filter (offM x) = (ML.take j).filter (offM x) ++ (if (ML[j]'hj).to = x then [] else [ML[j]'hj]) := by
  rw [List.take_succ_eq_append_getElem hj, List.filter_append]
  by_cases h : (ML[j]'hj).to = x <;> simp [offM, h]

theorem RestSt.go {W w w' : World} {rest : Value} {R : List Msg} (h : RestSt W rest R w) (hb : Below w.heap.size w w') : RestSt W rest R w' := ⟨h.below.trans (hb.mono h.below.size), own_below h.own hb⟩
attribute [local go_sem ↓] hide_append
set_option maxHeartbeats 4000000 in
set_option maxRecDepth 100000 in
theorem does_clear (w0 : World) (fb mb rb m : Nat) (a b : Int) (Av : Option Addr) (nv cv : Nat) (w : World) (h : JS w0 fb mb rb m w) (hm : m ≤ 600) :
    Calls Try.prog 15 #[.pointer (some ⟨fb, 0, none⟩), .pointer (some ⟨rb, 0, none⟩), .agg #[.int .i64 6, .int .i64 a, .int .i64 b, .slice Av nv cv]] w (DoesPost w0 fb mb rb (m + 1)) := by
  obtain ⟨n, f, L, ML, PP, hJ, hL, hP, hl1, hl2⟩ := jb_start h 6 a b (.slice Av nv cv)
  obtain ⟨Am, cm, hm0⟩ := hJ.m0
  have k0 := hJ.c0
  have k1 := hJ.c1
  have hml : (ML.length : Int) ≤ 600 := by omega
  have hcase : decide (0 ≤ a) = false ∨ (decide (0 ≤ a) = true ∧ decide (a < (ML.length : Int)) = true) ∨ (decide (0 ≤ a) = true ∧ decide (a < (ML.length : Int)) = false) := by
    simp only [decide_eq_true_eq, decide_eq_false_iff_not]; omega
  have HJ := Lib.hid (fun nq => hJ.go (bel_drewN _ nq))
  have HF : Hid (L.map (·.1) = ML ∧ PKeys f PP ∧ ML.length ≤ m ∧ PP.length ≤ m + 1 ∧ m ≤ 600) := ⟨hL, hP, by omega, by omega, hm⟩
  clear h hJ hL hP hl1 hl2 hm
  rcases hcase with c1 | ⟨c1, c2⟩ | ⟨c1, c2⟩
  all_goals
    go_enter Try.func15, Try.ntmps15
    go_wp2_with fail
    go_quiet (fail)
    have hJW := HJ.out nq
    clear HJ hm0 k0 k1
    generalize (w.alloc (Obj.cells #[Value.int IntKind.i64 6, Value.int IntKind.i64 a, Value.int IntKind.i64 b, Value.slice Av nv cv] 28)).drewN nq = W at *
    have k0 := hJW.c0
    have HS : Hid (RestSt W (.slice (some ⟨W.heap.size, 0, none⟩) 0 0) [] (W.alloc (.cells #[] 32))) := ⟨(Below.refl _ _).alloc (Nat.le_refl _) _, World.ownsRow_made W #[] 0 (Nat.le_refl _) (by unfold maxLen; omega) rfl⟩
    have HJW := Lib.hid hJW
    clear hJW
    go_wp2_with fail
    go_loopw [14, 15, 16] (fun c r i wr => ∃ (j : Nat) (A : Option Addr) (cc : Nat), i = .int .i64 j ∧ j ≤ ML.length ∧ r = .slice A ((ML.take j).filter (offM a)).length cc ∧ c = .int .i64 ((j : Int) - (((ML.take j).filter (offM a)).length : Int)) ∧ Hid (RestSt W (.slice A ((ML.take j).filter (offM a)).length cc) ((ML.take j).filter (offM a)) wr)) (fun _ _ i _ => ML.length - (intOf i).toNat)
    case atStart => exact ⟨0, some ⟨W.heap.size, 0, none⟩, 0, rfl, Nat.zero_le _, rfl, rfl, HS⟩
    case round =>
      obtain ⟨j, A, cc, rfl, hjk, rfl, rfl, HR⟩ := hrel
      obtain ⟨wL, rfl⟩ : ∃ wo : World, wo = wr := ⟨_, rfl⟩
      have hJL := HJW.out.go HR.out.below
      by_cases hj : j < ML.length
      · have hj' : (j : Int) < (ML.length : Int) := by omega
        obtain ⟨g, c, r0, r1, r2, r3⟩ := hJL.row j hj
        have k1 := hJL.c1
        have htk := offM_take ML a j hj
        have hR0 : ((ML.take j).filter (offM a)).length ≤ j := Nat.le_trans (List.length_filter_le ..) (by rw [List.length_take]; omega)
        have hpush := Lib.hid (fun nq => (HR.out.go (bel_drewN wL nq)).push (ML[j]'hj) (by have := HF.out.2.2; omega))
        have HRg := Lib.hid (fun nq => HR.out.go (bel_drewN wL nq))
        clear HR
        generalize ML[j]'hj = mg at *
        generalize (ML.take j).filter (offM a) = R at *
        by_cases hto : mg.to = a
        · have hE : (mg.to == a) = true := beq_iff_eq.2 hto
          rw [if_pos hto, List.append_nil] at htk
          have HT := Lib.hid htk
          clear hpush hJL htk hto k0
          go_wp2_with fail
          go_quiet (fail)
          go_wp2_with fail
          go_roundw
          case rel => exact ⟨j + 1, A, cc, by go_num, by omega, by rw [HT.out], by rw [HT.out]; go_num, by rw [HT.out]; exact HRg.out nq⟩
          case measure => simp [intOf]; omega
        · have hE : (mg.to == a) = false := beq_eq_false_iff_ne.2 hto
          rw [if_neg hto] at htk
          have HT := Lib.hid htk
          have r0q : ∀ nq o, ((wL.drewN nq).alloc o).cell? ⟨rb, 0, none⟩ = some (.slice (some ⟨g, 0, none⟩) ML.length c) := fun nq o => (((bel_drewN wL nq).trans (((Below.refl _ _).alloc (Nat.le_refl _) o).mono (Nat.le_refl _))).cell (World.block_lt_of_cell? wL _ r0)).trans r0
          clear hJL htk hto k0
          go_wp2_with fail
          go_quiet (fail)
          obtain ⟨A', c', w', hr, hn⟩ := hpush.out nq
          have HN := Lib.hid hn
          rw [show (wL.drewN nq).heap.size = wL.heap.size from rfl] at hr
          have hlR : (R ++ [mg]).length = R.length + 1 := by simp
          clear hn
          go_wp2_with fail
          go_roundw
          case rel => exact ⟨j + 1, A', c', by go_num, by omega, by rw [HT.out, hlR], by rw [HT.out, hlR]; go_num, by rw [HT.out, hlR]; exact HN.out⟩
          case measure => simp [intOf]; omega
      · obtain rfl : j = ML.length := by omega
        have k1 := hJL.c1
        obtain ⟨A2, c2', r0⟩ := hJL.m0
        rw [List.take_length] at HR ⊢
        obtain ⟨_, hfz, hn⟩ := jb_rest HJW.out HR.out
        have k1' := hn.c1
        have hlen : L.length = ML.length := by rw [← HF.out.1, List.length_map]
        have hCl := jb_clear hn a (by have := HF.out.2.2; omega)
        have hfl : (L.filter (keepsOff a)).length = (ML.filter (offM a)).length := by rw [← HF.out.1, ← filter_map, List.length_map]
        rw [hlen, hfl] at hCl
        have HCl := Lib.hid hCl
        have hle : (ML.filter (offM a)).length ≤ ML.length := List.length_filter_le ..
        have HG : Hid ((L.filter (keepsOff a)).map (·.1) = ML.filter (offM a) ∧ (ML.filter (offM a)).length ≤ m + 1) := ⟨by rw [filter_map, HF.out.1], by have := HF.out.2.2; omega⟩
        have hqq : ((ML.length : Int) - ((ML.filter (offM a)).length : Int) == (ML.length : Int) - ((ML.filter (offM a)).length : Int)) = true := by simp
        clear hJL hn hCl hlen hfl HR
        go_wp2_with (go_at_call 21; refine HCl.out.mono ?_; rintro e w5 ⟨rfl, hj5⟩; have HJ5 := Lib.hid hj5; clear hj5)
        go_ret
        exact ⟨rfl, HJ5.out.js HG.out.1 HF.out.2.1 HG.out.2 HF.out.2.2.2.1⟩
end Go.Proofs.Ytlieepbmmfdeoaa
