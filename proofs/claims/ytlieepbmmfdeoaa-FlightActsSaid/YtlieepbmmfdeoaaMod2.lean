/- The law's own model: one message out. -/
import Derived.Test.YtlieepbmmfdeoaaMod
namespace Go.Proofs.Ytlieepbmmfdeoaa
open Go.RowKit Own

/-- an append that the walk leaves as it stands: its run is a hypothesis -/
def appendH : Array TypeId → TypeId → Array Value → Sem Value := Builtin.append_
theorem hide_append (ts : Array TypeId) (t : TypeId) (args : Array Value) : Builtin.append_ ts t args = appendH ts t args := rfl

theorem out_runs (B g cap k : Nat) (ML : List Msg) (w : World) (h : w.ownsRow B 32 3 (.slice (some ⟨g, 0, none⟩) ML.length cap) ML.length (cellsM ML)) (hk : k < ML.length) (hn : ML.length ≤ 16384) :
    ∃ A2 A1 c1 W1 A3 c3 W2, (if cap = k + 1 then some (⟨g, 0, none⟩ : Addr) else some ⟨g, (k + 1) * 3, none⟩) = some A2 ∧
      (Builtin.append_ #[40, 40] 40 #[.slice (some ⟨w.heap.size, 0, none⟩) 0 0, .slice (some ⟨g, 0, none⟩) k cap]).run Try.prog (w.alloc (.cells #[] 32)) = .ok (.slice A1 k c1) W1 ∧
      (Builtin.append_ #[40, 40] 40 #[.slice A1 k c1, .slice (some A2) (ML.length - (k + 1)) (cap - (k + 1))]).run Try.prog W1 = .ok (.slice A3 (ML.length - 1) c3) W2 ∧
      W2.ownsRow w.heap.size 32 3 (.slice A3 (ML.length - 1) c3) (ML.length - 1) (cellsM (ML.eraseIdx k)) ∧ Below w.heap.size w W1 ∧ Below w.heap.size w W2 := by
  obtain ⟨i0, hi, hz0, hz1, hz2⟩ := info_parts infoM
  have hmade : (w.alloc (.cells #[] 32)).ownsRow w.heap.size 32 3 (.slice (some ⟨w.heap.size, 0, none⟩) 0 0) 0 [] :=
    World.ownsRow_made w #[] 0 (Nat.le_refl _) (by unfold maxLen; omega) rfl
  have hbel : Below w.heap.size w (w.alloc (.cells #[] 32)) := (Below.refl _ _).alloc (Nat.le_refl _) _
  have hcell : ∀ (W : World), Below w.heap.size w W → ∀ o j u, ((cellsM ML).drop o)[j]? = some u → W.cell? ⟨g, o + j, none⟩ = some u := fun W hb o j u hu => by
    rw [List.getElem?_drop] at hu
    have h1 := h.cells (g := g) rfl (o + j) u hu
    rw [Addr.add_lit, Nat.zero_add] at h1
    exact (hb.cell (World.block_lt_of_cell? w _ h1)).trans h1
  have hlen := cellsM_length ML
  obtain ⟨v1, W1, hr1, ho1, hg1, _, _⟩ := run_append_own_at (P := Try.prog) (w.alloc (.cells #[] 32)) w.heap.size 40 40 32 i0 _ 3 32 Try.underlying40 hi hz0 hz1 hz2 rfl (by decide) _ 0 [] hmade ⟨g, 0, none⟩ k cap ((cellsM ML).take (k * 3)) (by rw [List.length_take]; omega) (fun j u hu => by
      rw [List.getElem?_take] at hu
      split at hu
      · rw [Addr.add_lit, Nat.zero_add]
        have := hcell _ hbel 0 j u (by simpa using hu)
        simpa using this
      · cases hu) (fun u hu => cellsM_one ML u (List.mem_of_mem_take hu)) (by unfold maxLen; omega) (by omega) hbel.size
  simp only [Nat.zero_add, List.nil_append] at ho1
  have hb1 := hbel.grown hg1 hbel.size (fun k hk => (hmade.lt k hk).1)
  obtain ⟨A2, hA2, hat⟩ : ∃ A : Addr, (if cap = k + 1 then some (⟨g, 0, none⟩ : Addr) else some ⟨g, (k + 1) * 3, none⟩) = some A ∧ (∀ j u, ((cellsM ML).drop ((k + 1) * 3))[j]? = some u → W1.cell? (A.add j) = some u) := by
    by_cases hc : cap = k + 1
    · refine ⟨⟨g, 0, none⟩, by simp [hc], fun j u hu => ?_⟩
      have hcap : ML.length ≤ cap := by
        rcases h.2 with ⟨h0, _⟩ | ⟨_, _, _, hv, _, _, hc', _⟩
        · cases h0
        · cases hv; exact hc'
      rw [List.getElem?_drop, List.getElem?_eq_none (by omega)] at hu
      cases hu
    · refine ⟨⟨g, (k + 1) * 3, none⟩, by simp [hc], fun j u hu => ?_⟩
      rw [Addr.add_lit]
      exact hcell W1 hb1 _ j u hu
  obtain ⟨v2, W2, hr2, ho2, hg2, _, _⟩ := run_append_own_at (P := Try.prog) W1 w.heap.size 40 40 32 i0 _ 3 32 Try.underlying40 hi hz0 hz1 hz2 rfl (by decide) v1 k _ ho1 A2 (ML.length - (k + 1)) (cap - (k + 1)) ((cellsM ML).drop ((k + 1) * 3)) (by rw [List.length_drop]; omega) hat
    (fun u hu => cellsM_one ML u (List.mem_of_mem_drop hu)) (by unfold maxLen; omega) (by omega) (Nat.le_trans hbel.size hg1.size)
  have hb2 := hb1.grown hg2 hb1.size (fun k hk => (ho1.lt k hk).1)
  have e1 : k + (ML.length - (k + 1)) = ML.length - 1 := by omega
  have e2 : (cellsM ML).take (k * 3) ++ (cellsM ML).drop ((k + 1) * 3) = cellsM (ML.eraseIdx k) := by
    rw [List.eraseIdx_eq_take_drop_succ, cellsM_append, cellsM_take, cellsM_drop]
  rw [e1, e2] at ho2
  obtain ⟨A1, c1, rfl⟩ := own_slice ho1
  obtain ⟨A3, c3, rfl⟩ := own_slice ho2
  exact ⟨A2, A1, c1, W1, A3, c3, W2, hA2, hr1, hr2, ho2, hb1, hb2⟩

def MOutPost (B rb : Nat) (pv : Value) (ML : List Msg) (PP : List (Int × Int)) (w : World) (e : Ending) (w' : World) : Prop :=
  ∃ lv', e = .returned (.tuple #[]) ∧ MdAt B rb lv' pv ML PP w' ∧ TStep modT B w w' ∧ Chg [rb] w w' ∧ ∀ g, lv'.ownBlock = some g → w.heap.size ≤ g
/-- a new row is laid into the model -/
theorem MdAt.setL {B rb : Nat} {lv pv lv' : Value} {ML ML' : List Msg} {PP : List (Int × Int)} {w w1 : World} (h : MdAt B rb lv pv ML PP w) (hb : Below w.heap.size w w1) (hown : w1.ownsRow w.heap.size 32 3 lv' ML'.length (cellsM ML')) :
    MdAt B rb lv' pv ML' PP (w1.setCell ⟨rb, 0, none⟩ lv') ∧ TStep modT B w (w1.setCell ⟨rb, 0, none⟩ lv') := by
  have h1 := h.below hb
  have hrb := (Array.getElem?_eq_some_iff.1 h.st).1
  have hBw : B ≤ w.heap.size := Nat.le_trans h.hB (Nat.le_of_lt hrb)
  refine ⟨⟨h.hB, ?_, ?_, ?_⟩, TStep.of_chg (ks := [rb]) ((Chg.of_below hb).trans (Chg.setCell (ks := [rb]) _ (List.mem_cons_self ..)) (fun x hx _ => hx)) hBw fun k hk => ?_⟩
  · have := Own.heap_setCell_same h1.st 0 lv'
    simpa using this
  · refine own_mono (ownsRow_setCell_other hown (own_ne hown fun cur h => ?_) _) hBw
    rw [h1.st] at h; cases h
  · refine ownsRow_setCell_other h1.p (own_ne h1.p fun cur h => ?_) _
    rw [h1.st] at h; cases h
  · rw [List.mem_singleton.1 hk]
    exact ⟨h.hB, fun _ => ⟨_, _, _, h.st, by simp [modT]⟩⟩

attribute [local go_sem ↓] hide_append
set_option maxHeartbeats 4000000 in
set_option maxRecDepth 100000 in
theorem mout_any (B rb k : Nat) (lv pv : Value) (ML : List Msg) (PP : List (Int × Int)) (w : World) (h : MdAt B rb lv pv ML PP w) (hk : k < ML.length) (hn : ML.length ≤ 16384) :
    Calls Try.prog 25 #[.pointer (some ⟨rb, 0, none⟩), .int .i64 k] w (MOutPost B rb pv (ML.eraseIdx k) PP w) := by
  obtain ⟨g, cap, rfl, _, _⟩ := h.l.form (by omega)
  have hb0 : Below w.heap.size w w.drew := ⟨rfl, rfl, rfl, Nat.le_refl _, fun _ _ => rfl⟩
  have hd := h.below hb0
  have hcap : ML.length ≤ cap := by
    rcases h.l.2 with ⟨h0, _⟩ | ⟨_, _, _, hv, _, _, hc', _⟩
    · cases h0
    · cases hv; exact hc'
  obtain ⟨A2, A1, c1, W1, A3, c3, W2, hA2, hr1, hr2, ho, hb1, hb2⟩ := out_runs B g cap k ML w.drew hd.l hk hn
  have hr1 : (appendH #[40, 40] 40 #[.slice (some ⟨w.heap.size, 0, none⟩) 0 0, .slice (some ⟨g, 0, none⟩) k cap]).run Try.prog (w.alloc (.cells #[] 32)).drew = .ok (.slice A1 k c1) W1 := hr1
  have hr2 : (appendH #[40, 40] 40 #[.slice A1 k c1, .slice (some A2) (ML.length - (k + 1)) (cap - (k + 1))]).run Try.prog W1 = .ok (.slice A3 (ML.length - 1) c3) W2 := hr2
  have hE : (ML.eraseIdx k).length = ML.length - 1 := List.length_eraseIdx_of_lt hk
  rw [← hE] at ho
  have hrb : rb < w.heap.size := (Array.getElem?_eq_some_iff.1 h.st).1
  have hbd := hb0
  have hcl := hd.setL hb2 ho
  rw [hE] at hcl
  have HC := Lib.hid hcl
  have HG : Hid (Chg [rb] w (W2.setCell ⟨rb, 0, none⟩ (.slice A3 (ML.length - 1) c3)) ∧ ∀ g, (Value.slice A3 (ML.length - 1) c3).ownBlock = some g → w.heap.size ≤ g) := ⟨(Chg.of_below (hb0.trans hb2)).trans (Chg.setCell _ (List.mem_cons_self ..)) (fun x hx _ => hx), fun g hg => (ho.lt g (by rw [hE]; exact hg)).1⟩
  have hst0 : ∀ W, Below w.heap.size w W → W.cell? ⟨rb, 0, none⟩ = some (.slice (some ⟨g, 0, none⟩) ML.length cap) ∧ W.frozen? ⟨rb, 0, none⟩ = false := fun W hb => by
    have h1 := h.below hb
    exact ⟨by rw [cell_of_row W rb 0 _ _ _ h1.st]; rfl, frozen_of_block h1.st 0⟩
  have c0 := (hst0 w (Below.refl _ _)).1
  have ca := fun o => (hst0 (w.alloc o) ((Below.refl _ _).alloc (Nat.le_refl _) o)).1
  have c1' := (hst0 W1 (hb0.trans hb1)).1
  have c2' := hst0 W2 (hb0.trans hb2)
  obtain ⟨c2a, c2f⟩ := c2'
  have f1 : k ≤ cap := by omega
  have f2 : k ≤ ML.length := by omega
  have f3 : k + 1 ≤ ML.length := by omega
  have f4 : k + 1 ≤ cap := by omega
  have f5 : (k : Int) + 1 ≤ (ML.length : Int) := by omega
  have f6 : (k : Int) + 1 ≤ (cap : Int) := by omega
  have f7 : ((k : Int) + 1).toNat = k + 1 := by omega
  have f8 : (k : Int) < (ML.length : Int) := by omega
  have hwr : IntKind.i64.wrap ((k : Int) + 1) = (k : Int) + 1 := by rw [IntKind.wrap_i64]; omega
  have f9 : (k : Int) ≤ (cap : Int) := by omega
  have f10 : (0 : Int) ≤ (k : Int) + 1 := by omega
  have f11 : (ML.length : Int) ≤ 16384 := by omega
  clear h hd hb0 hb1 hb2 ho hcl hst0 hE hk hn hcap
  go_enter Try.func25, Try.ntmps25
  go_region
  all_goals
    go_end0
    exact ⟨_, rfl, HC.out.1, (TStep.of_below (by have := HC.out.1.hB; exact Nat.le_trans this (Nat.le_of_lt hrb)) hbd).trans HC.out.2, HG.out.1, HG.out.2⟩
end Go.Proofs.Ytlieepbmmfdeoaa
