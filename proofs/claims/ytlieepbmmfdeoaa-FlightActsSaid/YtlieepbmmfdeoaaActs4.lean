/- The walk of the law's 'does': part. -/
import Derived.Test.YtlieepbmmfdeoaaActs3
namespace Go.Proofs.Ytlieepbmmfdeoaa
open Go.RowKit Own

section
variable {w0 w : World} {fb mb n rb ob : Nat} {f : Value → Option Value} {L : List (Msg × Value)} {ML : List Msg} {PP : List (Int × Int)} {d a b : Int} {v : Value}
/-- one pair more in the model -/
theorem jb_pushP (h : JB w0 fb mb n f L rb ML PP ob d a b v w) (x y : Int) (hl : PP.length ≤ 16384) :
    ∃ A c A' c' w', w.cell? ⟨rb, 1, none⟩ = some (.slice A PP.length c) ∧
      (appendH #[41, 41] 41 #[.slice A PP.length c, .slice (some ⟨w.heap.size, 0, none⟩) 1 1]).run Try.prog (w.alloc (.cells #[.int .i64 x, .int .i64 y] 59)).drew = .ok (.slice A' (PP.length + 1) c') w' ∧
      w'.cell? ⟨rb, 1, none⟩ = some (.slice A PP.length c) ∧ w'.frozen? ⟨rb, 1, none⟩ = false ∧ JB w0 fb mb n f L rb ML (PP ++ [(x, y)]) ob d a b v (w'.setCell ⟨rb, 1, none⟩ (.slice A' (PP.length + 1) c')) := by
  obtain ⟨lv2, pv, h2⟩ := h.md
  obtain ⟨lv, h1⟩ := h.fl
  obtain ⟨A, c, rfl⟩ := own_slice h2.p
  obtain ⟨i0, hi, hz0, hz1, hz2⟩ := info_parts infoP
  have hB : w0.heap.size ≤ w.heap.size := h1.below.size
  have hb : Below w.heap.size w (w.alloc (.cells #[.int .i64 x, .int .i64 y] 59)).drew := ((Below.refl _ _).alloc (Nat.le_refl _) _).drew
  have h2' := h2.below hb
  obtain ⟨v', w', hr, hown, hg, _, _⟩ := run_append_own_at (P := Try.prog) (w.alloc (.cells #[.int .i64 x, .int .i64 y] 59)).drew w0.heap.size 41 41 59 i0 _ 2 16 Try.underlying41 hi hz0 hz1 hz2 rfl (by decide) _ _ _ h2'.p ⟨w.heap.size, 0, none⟩ 1 1 [.int .i64 x, .int .i64 y] rfl
    (World.news_of_block (cs := #[.int .i64 x, .int .i64 y]) (t := 59) (fr := (0, 0)) (heap_alloc_new w _)) (fun u hu => by
      simp only [List.mem_cons, List.mem_nil_iff, or_false] at hu
      rcases hu with rfl | rfl <;> rfl) (by unfold maxLen; omega) (by omega) (Nat.le_trans hB hb.size)
  have hsn : cellsP PP ++ [.int .i64 x, .int .i64 y] = cellsP (PP ++ [(x, y)]) := (cellsP_snoc PP (x, y)).symm
  rw [hsn] at hown
  obtain ⟨A', c', rfl⟩ := own_slice hown
  have hrb : rb < w.heap.size := (Array.getElem?_eq_some_iff.1 h2.st).1
  have hne : some rb ≠ (Value.slice A PP.length c).ownBlock := fun e => own_ne h2.p (fun cur hc => by rw [h2.st] at hc; cases hc) e.symm
  have hst := (hg.block rb (Nat.lt_of_lt_of_le hrb hb.size) hne).trans h2'.st
  have hp' : w'.ownsRow w0.heap.size 32 3 lv2 ML.length (cellsM ML) := by
    refine h2'.l.kept hg ?_
    cases hv : lv2.ownBlock with
    | none => exact .inl rfl
    | some g =>
      refine .inr fun e => ?_
      obtain ⟨c1, e1⟩ := own_type h2.l hv
      obtain ⟨c2, e2⟩ := own_type h2.p e.symm
      rw [e1] at e2; cases e2
  have hlen : (PP ++ [(x, y)]).length = PP.length + 1 := by simp
  refine ⟨A, c, A', c', w', by rw [cell_of_row _ _ 1 _ _ _ h2.st]; rfl, hr, by rw [cell_of_row _ _ 1 _ _ _ hst]; rfl, frozen_of_block hst 1, ?_⟩
  have hm : MdAt w0.heap.size rb lv2 (.slice A' (PP.length + 1) c') ML (PP ++ [(x, y)]) (w'.setCell ⟨rb, 1, none⟩ (.slice A' (PP.length + 1) c')) := by
    refine ⟨h2.hB, ?_, ?_, ?_⟩
    · have := Own.heap_setCell_same hst 1 (.slice A' (PP.length + 1) c')
      simpa using this
    · refine ownsRow_setCell_other hp' (own_ne hp' fun cur h => ?_) _
      rw [hst] at h; cases h
    · rw [hlen]
      refine ownsRow_setCell_other hown (own_ne hown fun cur h => ?_) _
      rw [hst] at h; cases h
  refine h.tstep (TStep.of_chg (ks := rb :: (Value.slice A PP.length c).ownBlock.toList) (((Chg.of_below hb).trans (ks' := rb :: (Value.slice A PP.length c).ownBlock.toList) (Chg.grown hg fun k hk => by rw [hk]; simp) (fun x hx _ => hx)).trans (Chg.setCell _ (List.mem_cons_self ..)) (fun x hx _ => hx)) hB fun x hx => ?_) hm
  rcases List.mem_cons.1 hx with rfl | hx
  · exact ⟨h2.hB, fun _ => ⟨_, _, _, h2.st, by simp [modT]⟩⟩
  · have hx' : (Value.slice A PP.length c).ownBlock = some x := by simpa using hx
    obtain ⟨cur, hc⟩ := own_type h2.p hx'
    exact ⟨(h2.p.lt x hx').1, fun _ => ⟨_, _, _, hc, by simp [modT]⟩⟩
theorem jb_part (h : JB w0 fb mb n f L rb ML PP ob d a b v w) (hP : PKeys f PP) (x y : Int) (hx : (Lit.int .i64 x).wf = true) (hy : (Lit.int .i64 y).wf = true) :
    Calls Try.prog 19 #[.pointer (some ⟨fb, 0, none⟩), .int .i64 x, .int .i64 y] w fun e w' => e = .returned (.tuple #[]) ∧ ∃ n' f', JB w0 fb mb n' f' L rb ML PP ob d a b v w' ∧ PKeys f' (PP ++ [(x, y)]) := by
  obtain ⟨lv, h1⟩ := h.fl
  by_cases hxy : x = y
  · subst hxy
    refine (fl_part_same h1 x).mono ?_
    rintro e w' ⟨rfl, rfl⟩
    exact ⟨rfl, n, f, h, hP.same x⟩
  · refine (fl_part h1 x y hxy hx hy).mono ?_
    rintro e w' ⟨rfl, h2, h3⟩
    exact ⟨rfl, _, _, h.keeps h3 h2, hP.add hxy⟩
theorem jb_parted (h : JB w0 fb mb n f L rb ML PP ob d a b v w) (x y : Int) (hx : (Lit.int .i64 x).wf = true) (hy : (Lit.int .i64 y).wf = true) (hP : PKeys f PP) :
    Calls Try.prog 17 #[.pointer (some ⟨fb, 0, none⟩), .int .i64 x, .int .i64 y] w fun e w' => e = .returned (.bool (partedM PP x y)) ∧ JB w0 fb mb n f L rb ML PP ob d a b v w' := by
  obtain ⟨lv, h1⟩ := h.fl
  refine (fl_parted h1 x y hx hy).mono ?_
  rintro e w' ⟨rfl, h2, h3⟩
  rw [hP.parted]
  exact ⟨rfl, h.go h3⟩
end
theorem partedM_snoc (PP : List (Int × Int)) (a b : Int) : partedM (PP ++ [(a, b)]) a b = (a != b) := by
  unfold partedM
  have : (PP ++ [(a, b)]).any (hits a b) = true := by simp [hits]
  rw [this]; simp
end Go.Proofs.Ytlieepbmmfdeoaa
