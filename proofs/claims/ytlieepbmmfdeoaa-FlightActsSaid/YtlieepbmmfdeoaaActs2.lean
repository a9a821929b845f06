/- The walk of the law's 'does': post, twice. -/
import Derived.Test.YtlieepbmmfdeoaaActs1
namespace Go.Proofs.Ytlieepbmmfdeoaa
open Go.RowKit Own

section
variable {w0 w : World} {fb mb n rb ob : Nat} {f : Value → Option Value} {L : List (Msg × Value)} {ML : List Msg} {PP : List (Int × Int)} {d a b : Int} {v : Value}
theorem jb_post (h : JB w0 fb mb n f L rb ML PP ob d a b v w) (x y : Int) (u : Value) (l : List UInt8) (hv : ReadsB w u l) (hx : (Lit.int .i64 x).wf = true) (hy : (Lit.int .i64 y).wf = true) (hl : l.length ≤ 140737488351232) (hL : L.length < 16384) :
    Calls Try.prog 12 #[.pointer (some ⟨fb, 0, none⟩), .int .i64 x, .int .i64 y, u] w fun e w' => e = .returned (.bool true) ∧ ∃ u', JB w0 fb mb n f (L ++ [(⟨x, y, l⟩, u')]) rb ML PP ob d a b v w' := by
  obtain ⟨lv, h1⟩ := h.fl
  refine (fl_post h1 x y u l hv hx hy hl hL).mono ?_
  rintro e w' ⟨rfl, hk, lv', L', h2, u', rfl, _⟩
  exact ⟨rfl, u', h.keeps hk h2⟩
theorem jb_twice (h : JB w0 fb mb n f L rb ML PP ob d a b v w) (k : Nat) (hk : k < L.length) (hL : L.length < 16384) :
    Calls Try.prog 11 #[.pointer (some ⟨fb, 0, none⟩), .int .i64 k] w fun e w' => e = .returned (.bool true) ∧ ∃ u', JB w0 fb mb n f (L ++ [((L[k]'hk).1, u')]) rb ML PP ob d a b v w' := by
  obtain ⟨lv, h1⟩ := h.fl
  refine (fl_twice h1 k hk hL).mono ?_
  rintro e w' ⟨rfl, hk', lv', L', h2, u', rfl, _⟩
  exact ⟨rfl, u', h.keeps hk' h2⟩
theorem jb_twice_out (h : JB w0 fb mb n f L rb ML PP ob d a b v w) (i : Int) (hi : i < 0 ∨ (L.length : Int) ≤ i) : Calls Try.prog 11 #[.pointer (some ⟨fb, 0, none⟩), .int .i64 i] w fun e w' => e = .returned (.bool false) ∧ JB w0 fb mb n f L rb ML PP ob d a b v w' := by
  obtain ⟨lv, h1⟩ := h.fl
  refine (fl_twice_out h1 i hi).mono ?_
  rintro e w' ⟨rfl, rfl⟩
  exact ⟨rfl, h⟩
/-- one message more in the model -/
theorem jb_push (h : JB w0 fb mb n f L rb ML PP ob d a b v w) (m : Msg) (hl : ML.length ≤ 16384) :
    ∃ A c A' c' w', w.cell? ⟨rb, 0, none⟩ = some (.slice A ML.length c) ∧
      (appendH #[40, 40] 40 #[.slice A ML.length c, .slice (some ⟨w.heap.size, 0, none⟩) 1 1]).run Try.prog (w.alloc (.cells #[.int .i64 m.fr, .int .i64 m.to, .string ⟨m.b.toArray⟩] 32)).drew = .ok (.slice A' (ML.length + 1) c') w' ∧
      w'.cell? ⟨rb, 0, none⟩ = some (.slice A ML.length c) ∧ w'.frozen? ⟨rb, 0, none⟩ = false ∧ JB w0 fb mb n f L rb (ML ++ [m]) PP ob d a b v (w'.setCell ⟨rb, 0, none⟩ (.slice A' (ML.length + 1) c')) := by
  obtain ⟨lv2, pv, h2⟩ := h.md
  obtain ⟨lv, h1⟩ := h.fl
  obtain ⟨A, c, rfl⟩ := own_slice h2.l
  obtain ⟨i0, hi, hz0, hz1, hz2⟩ := info_parts infoM
  have hB : w0.heap.size ≤ w.heap.size := h1.below.size
  have hb : Below w.heap.size w (w.alloc (.cells #[.int .i64 m.fr, .int .i64 m.to, .string ⟨m.b.toArray⟩] 32)).drew := ((Below.refl _ _).alloc (Nat.le_refl _) _).drew
  have h2' := h2.below hb
  obtain ⟨v', w', hr, hown, hg, _, _⟩ := run_append_own_at (P := Try.prog) (w.alloc (.cells #[.int .i64 m.fr, .int .i64 m.to, .string ⟨m.b.toArray⟩] 32)).drew w0.heap.size 40 40 32 i0 _ 3 32 Try.underlying40 hi hz0 hz1 hz2 rfl (by decide) _ _ _ h2'.l ⟨w.heap.size, 0, none⟩ 1 1 [.int .i64 m.fr, .int .i64 m.to, .string ⟨m.b.toArray⟩] rfl
    (World.news_of_block (cs := #[.int .i64 m.fr, .int .i64 m.to, .string ⟨m.b.toArray⟩]) (t := 32) (fr := (0, 0)) (heap_alloc_new w _)) (fun u hu => by
      simp only [List.mem_cons, List.mem_nil_iff, or_false] at hu
      rcases hu with rfl | rfl | rfl <;> rfl) (by unfold maxLen; omega) (by omega) (Nat.le_trans hB hb.size)
  have hsn : cellsM ML ++ [.int .i64 m.fr, .int .i64 m.to, .string ⟨m.b.toArray⟩] = cellsM (ML ++ [m]) := (cellsM_snoc ML m).symm
  rw [hsn] at hown
  obtain ⟨A', c', rfl⟩ := own_slice hown
  have hrb : rb < w.heap.size := (Array.getElem?_eq_some_iff.1 h2.st).1
  have hne : some rb ≠ (Value.slice A ML.length c).ownBlock := fun e => own_ne h2.l (fun cur hc => by rw [h2.st] at hc; cases hc) e.symm
  have hst := (hg.block rb (Nat.lt_of_lt_of_le hrb hb.size) hne).trans h2'.st
  have hp' : w'.ownsRow w0.heap.size 59 2 pv PP.length (cellsP PP) := by
    refine h2'.p.kept hg ?_
    cases hv : pv.ownBlock with
    | none => exact .inl rfl
    | some g =>
      refine .inr fun e => ?_
      obtain ⟨c1, e1⟩ := own_type h2.p hv
      obtain ⟨c2, e2⟩ := own_type h2.l e.symm
      rw [e1] at e2; cases e2
  have hlen : (ML ++ [m]).length = ML.length + 1 := by simp
  refine ⟨A, c, A', c', w', by rw [cell_of_row _ _ 0 _ _ _ h2.st]; rfl, hr, by rw [cell_of_row _ _ 0 _ _ _ hst]; rfl, frozen_of_block hst 0, ?_⟩
  have hm : MdAt w0.heap.size rb (.slice A' (ML.length + 1) c') pv (ML ++ [m]) PP (w'.setCell ⟨rb, 0, none⟩ (.slice A' (ML.length + 1) c')) := by
    refine ⟨h2.hB, ?_, ?_, ?_⟩
    · have := Own.heap_setCell_same hst 0 (.slice A' (ML.length + 1) c')
      simpa using this
    · rw [hlen]
      refine ownsRow_setCell_other hown (own_ne hown fun cur h => ?_) _
      rw [hst] at h; cases h
    · refine ownsRow_setCell_other hp' (own_ne hp' fun cur h => ?_) _
      rw [hst] at h; cases h
  refine h.tstep (TStep.of_chg (ks := rb :: (Value.slice A ML.length c).ownBlock.toList) (((Chg.of_below hb).trans (ks' := rb :: (Value.slice A ML.length c).ownBlock.toList) (Chg.grown hg fun k hk => by rw [hk]; simp) (fun x hx _ => hx)).trans (Chg.setCell _ (List.mem_cons_self ..)) (fun x hx _ => hx)) hB fun x hx => ?_) hm
  rcases List.mem_cons.1 hx with rfl | hx
  · exact ⟨h2.hB, fun _ => ⟨_, _, _, h2.st, by simp [modT]⟩⟩
  · have hx' : (Value.slice A ML.length c).ownBlock = some x := by simpa using hx
    obtain ⟨cur, hc⟩ := own_type h2.l hx'
    exact ⟨(h2.l.lt x hx').1, fun _ => ⟨_, _, _, hc, by simp [modT]⟩⟩
end

attribute [local go_sem ↓] hide_append
set_option maxHeartbeats 4000000 in
set_option maxRecDepth 100000 in
theorem does_post (w0 : World) (fb mb rb m : Nat) (d a b : Int) (v : Value) (l : List UInt8) (w : World) (h : JS w0 fb mb rb m w) (hm : m ≤ 600) (hd : d ≠ 1 ∧ d ≠ 2 ∧ d ≠ 3 ∧ d ≠ 4 ∧ d ≠ 5 ∧ d ≠ 6) (hv : ReadsB w0 v l) (ha : (Lit.int .i64 a).wf = true) (hb : (Lit.int .i64 b).wf = true) (hl : l.length ≤ 140737488351232) :
    Calls Try.prog 15 #[.pointer (some ⟨fb, 0, none⟩), .pointer (some ⟨rb, 0, none⟩), .agg #[.int .i64 d, .int .i64 a, .int .i64 b, v]] w (DoesPost w0 fb mb rb (m + 1)) := by
  obtain ⟨h1, h2, h3, h4, h5, h6⟩ := hd
  have e1 : (d == 1) = false := beq_eq_false_iff_ne.2 h1
  have e2 : (d == 2) = false := beq_eq_false_iff_ne.2 h2
  have e3 : (d == 3) = false := beq_eq_false_iff_ne.2 h3
  have e4 : (d == 4) = false := beq_eq_false_iff_ne.2 h4
  have e5 : (d == 5) = false := beq_eq_false_iff_ne.2 h5
  have e6 : (d == 6) = false := beq_eq_false_iff_ne.2 h6
  obtain ⟨n, f, L, ML, PP, hJ, hL, hP, hl1, hl2⟩ := jb_start h d a b v
  obtain ⟨Am, cm, hm0⟩ := hJ.m0
  have k0 := hJ.c0
  have k1 := hJ.c1
  have hlen : L.length = ML.length := by rw [← hL, List.length_map]
  have hml : (ML.length : Int) ≤ 600 := by omega
  have hcase : decide (0 ≤ a) = false ∨ (decide (0 ≤ a) = true ∧ decide (a < (ML.length : Int)) = true) ∨ (decide (0 ≤ a) = true ∧ decide (a < (ML.length : Int)) = false) := by
    simp only [decide_eq_true_eq, decide_eq_false_iff_not]; omega
  have HJ := Lib.hid (fun nq => hJ.go (bel_drewN _ nq))
  have HRd : Hid (∀ w', Below w0.heap.size w0 w' → ReadsB w' v l) := fun w' hw => hv.below hw
  have HPu : Hid (∀ W, JB w0 fb mb n f L rb ML PP w.heap.size d a b v W → _) := fun W hj => jb_push hj ⟨a, b, l⟩ (by omega)
  have HPo : Hid (∀ W, JB w0 fb mb n f L rb (ML ++ [⟨a, b, l⟩]) PP w.heap.size d a b v W → Calls Try.prog 12 #[.pointer (some ⟨fb, 0, none⟩), .int .i64 a, .int .i64 b, v] W fun e w' => e = .returned (.bool true) ∧ ∃ u', JB w0 fb mb n f (L ++ [(⟨a, b, l⟩, u')]) rb (ML ++ [⟨a, b, l⟩]) PP w.heap.size d a b v w') := fun W hj => jb_post hj a b v l (hv.below (by obtain ⟨lv, q⟩ := hj.fl; exact q.below)) ha hb hl (by omega)
  have HF : Hid (L.map (·.1) = ML ∧ PKeys f PP ∧ ML.length + 1 ≤ m + 1 ∧ PP.length ≤ m + 1) := ⟨hL, hP, by omega, by omega⟩
  obtain ⟨Av, cv, rfl⟩ := hv.slice
  clear h hJ hL hP hl1 hl2 hm hlen hv ha hb hl h1 h2 h3 h4 h5 h6
  rcases hcase with c1 | ⟨c1, c2⟩ | ⟨c1, c2⟩
  all_goals
    go_enter Try.func15, Try.ntmps15
    go_wp2_with fail
    go_quiet (fail)
    have hJW := HJ.out nq
    clear HJ hm0 k0 k1
    generalize (w.alloc (Obj.cells #[Value.int IntKind.i64 d, Value.int IntKind.i64 a, Value.int IntKind.i64 b, Value.slice Av l.length cv] 28)).drewN nq = W at *
    have k0 := hJW.c0
    have k1 := hJW.c1
    have k2 := hJW.c2
    have k3 := hJW.c3
    obtain ⟨A, c, A', c', w2, q0, hr, q1, q2, hn⟩ := HPu.out W hJW
    have j1 := hn.c1
    have j2 := hn.c2
    have j3 := hn.c3
    have qA := fun o => (((Below.refl W.heap.size W).alloc (Nat.le_refl _) o).cell (World.block_lt_of_cell? W _ q0)).trans q0
    have hcv := conv_reads (w := W.drew) (HRd.out W.drew (by obtain ⟨lv, q⟩ := hJW.fl; exact q.below.drew))
    have HP2 := Lib.hid (HPo.out _ hn)
    clear hn hJW HPu HPo HRd
    go_wp2_with fail
    go_region
    all_goals
      go_wp2_with (go_at_call 12; refine HP2.out.mono ?_; rintro e w3 ⟨rfl, u', hj3⟩; have HJ3 := Lib.hid hj3; clear hj3)
      go_ret
      exact ⟨rfl, HJ3.out.js (by rw [List.map_append, HF.out.1]; rfl) HF.out.2.1 (by have := HF.out.2.2.1; simpa using this) HF.out.2.2.2⟩
end Go.Proofs.Ytlieepbmmfdeoaa
