/- Ballot's Pick: what it answers of any acceptors. -/
import Derived.Test.YtaopfgoofhojeaaBal6
namespace Go.Proofs.Ytaopfgoofhojeaa
open Go.RowKit Own

instance : Inhabited Acc := ⟨⟨⟨0, 0⟩, ⟨0, 0⟩, []⟩⟩
/-- an acceptor's cells -/
def AccAt (w : World) (blk o : Nat) (x : Acc) : Prop :=
  ∃ A c, w.cell? ⟨blk, o, none⟩ = some (.int .i64 x.p.r) ∧ w.cell? ⟨blk, o + 1, none⟩ = some (.int .i64 x.p.m) ∧ w.cell? ⟨blk, o + 2, none⟩ = some (.int .i64 x.a.r) ∧ w.cell? ⟨blk, o + 3, none⟩ = some (.int .i64 x.a.m) ∧ w.cell? ⟨blk, o + 4, none⟩ = some (.slice A x.l.length c) ∧ ReadsB w (.slice A x.l.length c) x.l
def ReadsAccs (w : World) (v : Value) (xs : List Acc) : Prop :=
  (xs = [] ∧ ∃ A c, v = .slice A 0 c) ∨ ∃ b off c, v = .slice (some ⟨b, off, none⟩) xs.length c ∧ ∀ i (hi : i < xs.length), AccAt w b (off + i * 5) (xs[i]'hi)
theorem AccAt.below {w w1 : World} {blk o : Nat} {x : Acc} (h : AccAt w blk o x) (hb : Below w.heap.size w w1) : AccAt w1 blk o x := by
  obtain ⟨A, c, h0, h1, h2, h3, h4, h5⟩ := h
  have hlt : blk < w.heap.size := World.block_lt_of_cell? w _ h0
  exact ⟨A, c, (hb.cell hlt).trans h0, (hb.cell hlt).trans h1, (hb.cell hlt).trans h2, (hb.cell hlt).trans h3, (hb.cell hlt).trans h4, h5.below hb⟩
theorem ReadsAccs.below {w w1 : World} {v : Value} {xs : List Acc} (h : ReadsAccs w v xs) (hb : Below w.heap.size w w1) : ReadsAccs w1 v xs := by
  rcases h with h | ⟨b, off, c, hv, hc⟩
  · exact .inl h
  · exact .inr ⟨b, off, c, hv, fun i hi => (hc i hi).below hb⟩
theorem ReadsAccs.slice {w : World} {v : Value} {xs : List Acc} (h : ReadsAccs w v xs) : ∃ A c, v = .slice A xs.length c := by
  rcases h with ⟨rfl, A, c, rfl⟩ | ⟨b, off, c, rfl, _⟩
  · exact ⟨A, c, rfl⟩
  · exact ⟨_, c, rfl⟩
theorem ReadsAccs.at_ {w : World} {v : Value} {xs : List Acc} (h : ReadsAccs w v xs) {i : Nat} (hi : i < xs.length) : ∃ b off c, v = .slice (some ⟨b, off, none⟩) xs.length c ∧ AccAt w b (off + i * 5) (xs[i]'hi) := by
  rcases h with ⟨rfl, _⟩ | ⟨b, off, c, rfl, hc⟩
  · cases hi
  · exact ⟨b, off, c, rfl, hc i hi⟩

def bestOf (b x : Acc) : Acc := if lessB b.a x.a = true then x else b
def bestL (xs : List Acc) : Acc := xs.foldl bestOf ⟨⟨0, 0⟩, ⟨0, 0⟩, []⟩
theorem bestL_succ (xs : List Acc) (j : Nat) (hj : j < xs.length) : bestL (xs.take (j + 1)) = bestOf (bestL (xs.take j)) (xs[j]'hj) := by
  unfold bestL
  rw [List.take_succ_eq_append_getElem hj, List.foldl_append]; rfl
def pickL (xs : List Acc) (own : List UInt8) : List UInt8 := if zeroB (bestL xs).a = true then own else (bestL xs).l
def PickPost (l : List UInt8) (w : World) (e : Ending) (w' : World) : Prop := ∃ A c, e = .returned (.slice A l.length c) ∧ w'.ownsRow w.heap.size 5 1 (.slice A l.length c) l.length (u8s l) ∧ Below w.heap.size w w'

/-- the best one's box -/
def BB (w : World) (x : Acc) (bb : Nat) (wr : World) : Prop :=
  ∃ A c, wr.heap[bb]? = some (.cells #[.int .i64 x.p.r, .int .i64 x.p.m, .int .i64 x.a.r, .int .i64 x.a.m, .slice A x.l.length c] 26 (0, 0)) ∧ ReadsB w (.slice A x.l.length c) x.l ∧ Below w.heap.size w wr ∧ x.l.length ≤ 140737488351232
theorem BB.go {w : World} {x : Acc} {bb : Nat} {wr w' : World} (h : BB w x bb wr) (hb : Below wr.heap.size wr w') : BB w x bb w' := by
  obtain ⟨A, c, h1, h2, h3, h4⟩ := h
  exact ⟨A, c, (hb.block _ (Array.getElem?_eq_some_iff.1 h1).1).trans h1, h2, h3.trans (hb.mono h3.size), h4⟩
theorem set5 {w : World} {b : Nat} {t : TypeId} {c0 c1 c2 c3 c4 : Value} (h : w.heap[b]? = some (.cells #[c0, c1, c2, c3, c4] t (0, 0))) (x0 x1 x2 x3 x4 : Value) :
    (((((w.setCell ⟨b, 0, none⟩ x0).setCell ⟨b, 1, none⟩ x1).setCell ⟨b, 2, none⟩ x2).setCell ⟨b, 3, none⟩ x3).setCell ⟨b, 4, none⟩ x4).heap[b]? = some (.cells #[x0, x1, x2, x3, x4] t (0, 0)) :=
  Own.heap_setCell_same (Own.heap_setCell_same (Own.heap_setCell_same (Own.heap_setCell_same (Own.heap_setCell_same h 0 x0) 1 x1) 2 x2) 3 x3) 4 x4
theorem below5 {B b : Nat} {w w' : World} (h : Below B w w') (hb : B ≤ b) (x0 x1 x2 x3 x4 : Value) :
    Below B w (((((w'.setCell ⟨b, 0, none⟩ x0).setCell ⟨b, 1, none⟩ x1).setCell ⟨b, 2, none⟩ x2).setCell ⟨b, 3, none⟩ x3).setCell ⟨b, 4, none⟩ x4) :=
  ((((h.setCell hb x0).setCell hb x1).setCell hb x2).setCell hb x3).setCell hb x4

set_option maxHeartbeats 4000000 in
set_option maxRecDepth 100000 in
theorem pick_any (v ov : Value) (xs : List Acc) (own : List UInt8) (w : World) (hv : ReadsAccs w v xs) (hl : ∀ x ∈ xs, x.l.length ≤ 140737488351232) (ho : ReadsB w ov own) (hol : own.length ≤ 140737488351232) (hn : xs.length ≤ 140737488351232) :
    Calls Try.prog 12 #[v, ov] w (PickPost (pickL xs own) w) := by
  obtain ⟨Av, cv, rfl⟩ := hv.slice
  have HV := Lib.hid (And.intro hv hl)
  have HO := Lib.hid (And.intro ho hol)
  have hn0 : Hid (BB w ⟨⟨0, 0⟩, ⟨0, 0⟩, []⟩ w.heap.size (w.alloc (.cells #[.int .i64 0, .int .i64 0, .int .i64 0, .int .i64 0, .slice none 0 0] 26))) :=
    ⟨none, 0, heap_alloc_new w _, .inl ⟨rfl, rfl⟩, (Below.refl _ _).alloc (Nat.le_refl _) _, Nat.zero_le _⟩
  have HCl : Hid (∀ (W : World) (A : Option Addr) (l : List UInt8) (c : Nat), ReadsB W (.slice A l.length c) l → l.length ≤ 140737488351232 → Calls Try.prog 21 #[.slice A l.length c] W (PickPost l W)) := fun W A l c h1 h2 => by
    refine (clone_any _ l W h1 h2).mono ?_
    rintro e w' ⟨v', rfl, hown, hb, _⟩
    obtain ⟨A', c', rfl⟩ := own_slice hown
    exact ⟨A', c', rfl, hown, hb⟩
  obtain ⟨Ao, co, rfl⟩ := ho.slice
  clear hv hl ho hol
  go_enter Try.func12, Try.ntmps12
  go_wp2_with fail
  go_loopw [10] (fun i wr => ∃ (j : Nat) (x : Acc), i = .int .i64 j ∧ j ≤ xs.length ∧ Hid (x = bestL (xs.take j)) ∧ Hid (BB w x w.heap.size wr)) (fun i _ => xs.length - (intOf i).toNat)
  case atStart => exact ⟨0, _, rfl, Nat.zero_le _, (rfl : _ = bestL (xs.take 0)), hn0⟩
  case round =>
    obtain ⟨j, x, rfl, hj, HX, HB⟩ := hrel
    obtain ⟨wL, rfl⟩ : ∃ wo : World, wo = wr := ⟨_, rfl⟩
    obtain ⟨A, c, hbx, hrd, hbw, hxl⟩ := HB.out
    by_cases hlt : j < xs.length
    · have k1 : (j : Int) < (xs.length : Int) := by omega
      obtain ⟨bd, od, cd, hve, hat⟩ := HV.out.1.at_ hlt
      cases hve
      have hyl := HV.out.2 _ (List.getElem_mem hlt)
      have HS := Lib.hid (bestL_succ xs j hlt)
      generalize xs[j]'hlt = y at *
      obtain ⟨Ay, cy, e0', e1', e2', e3', e4', hry⟩ := hat
      have hlt2 : bd < w.heap.size := World.block_lt_of_cell? w _ e0'
      have HE : Hid (∀ W, Below w.heap.size w W → W.cell? ⟨bd, od + j * 5, none⟩ = some (.int .i64 y.p.r) ∧ W.cell? ⟨bd, od + j * 5 + 1, none⟩ = some (.int .i64 y.p.m) ∧ W.cell? ⟨bd, od + j * 5 + 2, none⟩ = some (.int .i64 y.a.r) ∧ W.cell? ⟨bd, od + j * 5 + 3, none⟩ = some (.int .i64 y.a.m) ∧ W.cell? ⟨bd, od + j * 5 + 4, none⟩ = some (.slice Ay y.l.length cy)) := fun W hb =>
        ⟨(hb.cell (p := ⟨bd, od + j * 5, none⟩) hlt2).trans e0', (hb.cell (p := ⟨bd, od + j * 5 + 1, none⟩) hlt2).trans e1', (hb.cell (p := ⟨bd, od + j * 5 + 2, none⟩) hlt2).trans e2', (hb.cell (p := ⟨bd, od + j * 5 + 3, none⟩) hlt2).trans e3', (hb.cell (p := ⟨bd, od + j * 5 + 4, none⟩) hlt2).trans e4'⟩
      obtain ⟨e0, e1, e2, e3, e4⟩ := HE.out wL hbw
      have HY := Lib.hid (And.intro hry hyl)
      have hal : ∀ o, Below wL.heap.size wL (wL.alloc o) := fun o => (Below.refl _ _).alloc (Nat.le_refl _) o
      have hbo : ∀ o, (wL.alloc o).heap[w.heap.size]? = _ := fun o => ((hal o).block _ (Array.getElem?_eq_some_iff.1 hbx).1).trans hbx
      have g2 : ∀ o, (wL.alloc o).cell? ⟨w.heap.size, 2, none⟩ = some (.int .i64 x.a.r) := fun o => by rw [cell_of_row _ _ 2 _ _ _ (hbo o)]; rfl
      have g3 : ∀ o, (wL.alloc o).cell? ⟨w.heap.size, 3, none⟩ = some (.int .i64 x.a.m) := fun o => by rw [cell_of_row _ _ 3 _ _ _ (hbo o)]; rfl
      have HG := Lib.hid (And.intro hbo (And.intro hal hbx))
      have HL := Lib.hid (fun W => less_any x.a.r x.a.m y.a.r y.a.m W)
      have HBw := Lib.hid hbw
      have HRd := Lib.hid (And.intro hrd hxl)
      have HSt : Hid (bestOf x y = if lessB ⟨x.a.r, x.a.m⟩ ⟨y.a.r, y.a.m⟩ = true then y else x) := rfl
      generalize lessB ⟨x.a.r, x.a.m⟩ ⟨y.a.r, y.a.m⟩ = B at *
      clear e0' e1' e2' e3' e4' hry hyl hal hbo hbx hbw hrd hxl
      cases B
      all_goals
        go_wp2_with (go_at_call 16; (with_reducible refine (HL.out _).mono ?_); rintro e w2 ⟨rfl, hb2⟩; obtain ⟨a0, a1, a2, a3, a4, _⟩ := cells5 ((hb2.block _ (by simp)).trans (heap_alloc_new wL (.cells #[.int .i64 y.p.r, .int .i64 y.p.m, .int .i64 y.a.r, .int .i64 y.a.m, .slice Ay y.l.length cy] 26))); have hbb := (HG.out.2.1 _).trans (hb2.mono (HG.out.2.1 _).size); have hb5 := (hbb.block _ (Array.getElem?_eq_some_iff.1 HG.out.2.2).1).trans HG.out.2.2; obtain ⟨m0, m1, m2, m3, m4, mf⟩ := cells5 hb5; have HB2 := Lib.hid (And.intro hb5 hbb); clear hb2 hb5 hbb)
        go_roundw
        case rel =>
          first
            | exact ⟨j + 1, x, by go_num, by omega, Lib.hid (by rw [HS.out, ← HX.out]; exact HSt.out.symm), HB.out.go HB2.out.2⟩
            | exact ⟨j + 1, y, by go_num, by omega, Lib.hid (by rw [HS.out, ← HX.out]; exact HSt.out.symm), ⟨Ay, cy, set5 HB2.out.1 _ _ _ _ _, HY.out.1, below5 (HBw.out.trans (HB2.out.2.mono HBw.out.size)) (Nat.le_refl _) _ _ _ _ _, HY.out.2⟩⟩
        case measure => simp [intOf]; omega
    · have k1 : ¬ (j : Int) < (xs.length : Int) := by omega
      have hje : j = xs.length := by omega
      have hX : Hid (x = bestL xs) := by
        have := HX.out
        rw [hje, List.take_of_length_le (Nat.le_refl _)] at this
        exact this
      obtain ⟨b0, b1, b2, b3, b4, bf⟩ := cells5 hbx
      have hbo : ∀ W, Below wL.heap.size wL W → W.heap[w.heap.size]? = _ := fun W hb => (hb.block _ (Array.getElem?_eq_some_iff.1 hbx).1).trans hbx
      have HBo := Lib.hid (And.intro hbo (And.intro hbw (And.intro hrd hxl)))
      have HZ := Lib.hid (fun W => zero_any x.a.r x.a.m W)
      have HP : Hid (pickL xs own = if zeroB ⟨x.a.r, x.a.m⟩ = true then own else x.l) := by
        show _ = _
        unfold pickL
        rw [← hX.out]
      generalize zeroB ⟨x.a.r, x.a.m⟩ = B at *
      clear hbx hbo hbw hrd hxl
      cases B
      · go_wp2_with (first
          | (go_at_call 22; (with_reducible refine (HZ.out _).mono ?_); rintro e w2 ⟨rfl, hb2⟩; have HB2 := Lib.hid hb2; obtain ⟨m0, m1, m2, m3, m4, mf⟩ := cells5 (HBo.out.1 _ hb2); clear hb2)
          | (go_at_call 21; (with_reducible refine (HCl.out _ _ _ _ (HBo.out.2.2.1.below (HBo.out.2.1.trans (HB2.out.mono HBo.out.2.1.size))) HBo.out.2.2.2).mono ?_); rintro e w3 ⟨A3, c3, rfl, h3, hb3⟩; have HB3 := Lib.hid (And.intro h3 hb3); clear h3 hb3))
        go_ret
        have hb12 := HBo.out.2.1.trans (HB2.out.mono HBo.out.2.1.size)
        exact ⟨A3, c3, by rw [HP.out]; rfl, by rw [HP.out]; exact own_mono HB3.out.1 hb12.size, hb12.trans (HB3.out.2.mono hb12.size)⟩
      · go_wp2_with (first
          | (go_at_call 22; (with_reducible refine (HZ.out _).mono ?_); rintro e w2 ⟨rfl, hb2⟩; have HB2 := Lib.hid hb2; obtain ⟨m0, m1, m2, m3, m4, mf⟩ := cells5 (HBo.out.1 _ hb2); clear hb2)
          | (go_at_call 21; (with_reducible refine (HCl.out _ _ _ _ (HO.out.1.below (HBo.out.2.1.trans (HB2.out.mono HBo.out.2.1.size))) HO.out.2).mono ?_); rintro e w3 ⟨A3, c3, rfl, h3, hb3⟩; have HB3 := Lib.hid (And.intro h3 hb3); clear h3 hb3))
        go_ret
        have hb12 := HBo.out.2.1.trans (HB2.out.mono HBo.out.2.1.size)
        exact ⟨A3, c3, by rw [HP.out]; rfl, by rw [HP.out]; exact own_mono HB3.out.1 hb12.size, hb12.trans (HB3.out.2.mono hb12.size)⟩
end Go.Proofs.Ytaopfgoofhojeaa
