/- Deliver in the law's 'does': the box of what is wanted, and the bytes that came. -/
import Derived.Test.YtlieepbmmfdeoaaActs7b
namespace Go.Proofs.Ytlieepbmmfdeoaa
open Go.RowKit Own

def wantC (x y : Int) (s : List UInt8) : Array Value := #[.int .i64 x, .int .i64 y, .string ⟨s.toArray⟩]
theorem eq_msg (x y : Int) (s : List UInt8) (w : World) : (Op.equalIn 10000 32 (.agg #[.int .i64 x, .int .i64 y, .string ⟨s.toArray⟩]) (.agg #[.int .i64 x, .int .i64 y, .string ⟨s.toArray⟩])).run Try.prog w = .ok true w := by
  simp [go_sem]

/-- both, the box of the act, the box of what is wanted (no block of theirs), and the bytes that came -/
structure DB (w0 : World) (fb mb n : Nat) (f : Value → Option Value) (L : List (Msg × Value)) (rb : Nat) (ML : List Msg) (PP : List (Int × Int)) (wb : Nat) (cs : Array Value) (u : Value) (l : List UInt8) (w : World) : Prop where
  fl : ∃ lv, Fl w0 fb mb n f lv L w
  md : ∃ lv pv, MdAt w0.heap.size rb lv pv ML PP w ∧ lv.ownBlock ≠ some wb
  ge : w0.heap.size ≤ wb
  want : w.heap[wb]? = some (.cells cs 32 (0, 0))
  by_ : ∃ base, w.ownsRow base 5 1 u l.length (u8s l)
section
variable {w0 w w' : World} {fb mb n rb wb ob : Nat} {f : Value → Option Value} {L : List (Msg × Value)} {ML : List Msg} {PP : List (Int × Int)} {cs : Array Value} {u : Value} {l : List UInt8} {d a b : Int} {v : Value}
theorem DB.go (h : DB w0 fb mb n f L rb ML PP wb cs u l w) (hb : Below w.heap.size w w') : DB w0 fb mb n f L rb ML PP wb cs u l w' := by
  obtain ⟨lv, h1⟩ := h.fl
  obtain ⟨lv2, pv, h2, h3⟩ := h.md
  exact ⟨⟨lv, h1.go hb⟩, ⟨lv2, pv, h2.below hb, h3⟩, h.ge, (hb.block _ (Array.getElem?_eq_some_iff.1 h.want).1).trans h.want, by obtain ⟨q, hq⟩ := h.by_; exact ⟨q, own_below hq hb⟩⟩
theorem fl_db {lv lv2 pv : Value} (h1 : Fl w0 fb mb n f lv L w) (h2 : MdAt w0.heap.size rb lv2 pv ML PP w) (hu : ∃ base, w.ownsRow base 5 1 u l.length (u8s l)) : DB w0 fb mb n f L rb ML PP w.heap.size cs u l (w.alloc (.cells cs 32)) := by
  have hb : Below w.heap.size w (w.alloc (.cells cs 32)) := (Below.refl _ _).alloc (Nat.le_refl _) _
  refine ⟨⟨lv, h1.go hb⟩, ⟨lv2, pv, h2.below hb, fun e => ?_⟩, h1.below.size, heap_alloc_new w _, by obtain ⟨q, hq⟩ := hu; exact ⟨q, own_below hq hb⟩⟩
  have := (h2.l.lt _ e).2
  omega
theorem JB.db (h : JB w0 fb mb n f L rb ML PP ob d a b v w) (hu : ∃ base, w.ownsRow base 5 1 u l.length (u8s l)) : DB w0 fb mb n f L rb ML PP w.heap.size cs u l (w.alloc (.cells cs 32)) := by
  obtain ⟨lv, h1⟩ := h.fl
  obtain ⟨lv2, pv, h2⟩ := h.md
  exact fl_db h1 h2 hu
theorem DB.set (h : DB w0 fb mb n f L rb ML PP wb cs u l w) (j : Nat) (x : Value) : DB w0 fb mb n f L rb ML PP wb (cs.setIfInBounds j x) u l (w.setCell ⟨wb, j, none⟩ x) := by
  obtain ⟨lv, h1⟩ := h.fl
  obtain ⟨lv2, pv, h2, h3⟩ := h.md
  have hs : TStep modT w0.heap.size w (w.setCell ⟨wb, j, none⟩ x) := TStep.of_chg (ks := [wb]) (Chg.setCell _ (List.mem_cons_self ..)) h1.below.size fun k hk => by
    rw [List.mem_singleton.1 hk]
    exact ⟨h.ge, fun _ => ⟨_, _, _, h.want, by simp [modT]⟩⟩
  have hne : rb ≠ wb := by rintro rfl; have := h2.st; rw [h.want] at this; cases this
  have hpn : pv.ownBlock ≠ some wb := own_ne h2.p fun cur hc => by rw [h.want] at hc; cases hc
  refine ⟨⟨lv, h1.tstep hs⟩, ⟨lv2, pv, ⟨h2.hB, ?_, ownsRow_setCell_other h2.l h3 _, ownsRow_setCell_other h2.p hpn _⟩, h3⟩, h.ge, Own.heap_setCell_same h.want j x, ?_⟩
  · rw [Below.heap_setCell _ _ _ _ (by simpa using hne)]; exact h2.st
  · obtain ⟨q, hq⟩ := h.by_
    exact ⟨q, own_keep hq fun k cur hc => hs.keep hc (by decide)⟩
theorem DB.js {m : Nat} (h : DB w0 fb mb n f L rb ML PP wb cs u l w) (h1 : L.map (·.1) = ML) (h2 : PKeys f PP) (h3 : ML.length ≤ m) (h4 : PP.length ≤ m) : JS w0 fb mb rb m w := by
  obtain ⟨lv, f1⟩ := h.fl
  obtain ⟨lv2, pv, m1, _⟩ := h.md
  exact ⟨n, f, lv, L, lv2, pv, ML, PP, f1, m1, h1, h2, h3, h4⟩
theorem DB.row (h : DB w0 fb mb n f L rb ML PP wb cs u l w) (k : Nat) (hk : k < ML.length) :
    ∃ g c, w.cell? ⟨rb, 0, none⟩ = some (.slice (some ⟨g, 0, none⟩) ML.length c) ∧ w.cell? ⟨g, k * 3, none⟩ = some (.int .i64 (ML[k]'hk).fr) ∧ w.cell? ⟨g, k * 3 + 1, none⟩ = some (.int .i64 (ML[k]'hk).to) ∧ w.cell? ⟨g, k * 3 + 2, none⟩ = some (.string ⟨(ML[k]'hk).b.toArray⟩) := by
  obtain ⟨lv2, pv, h2, _⟩ := h.md
  obtain ⟨g, c, rfl, _, _⟩ := h2.l.form (by omega)
  exact ⟨g, c, by rw [cell_of_row _ _ 0 _ _ _ h2.st]; rfl, ml_cells h2.l k hk⟩
theorem DB.out (h : DB w0 fb mb n f L rb ML PP wb cs u l w) (k : Nat) (hk : k < ML.length) (hn : ML.length ≤ 16384) : Calls Try.prog 25 #[.pointer (some ⟨rb, 0, none⟩), .int .i64 k] w fun e w' => e = .returned (.tuple #[]) ∧ DB w0 fb mb n f L rb (ML.eraseIdx k) PP wb cs u l w' := by
  obtain ⟨lv, h1⟩ := h.fl
  obtain ⟨lv2, pv, h2, h3⟩ := h.md
  have hne : wb ≠ rb := by rintro rfl; have := h2.st; rw [h.want] at this; cases this
  have hlt := (Array.getElem?_eq_some_iff.1 h.want).1
  refine (mout_any _ rb k lv2 pv ML PP w h2 hk hn).mono ?_
  rintro e w' ⟨lv', rfl, h4, h5, h6, h7⟩
  refine ⟨rfl, ⟨lv, h1.tstep h5⟩, ⟨lv', pv, h4, fun e => ?_⟩, h.ge, (h6.block wb hlt (by simpa using hne)).trans h.want, ?_⟩
  · have := h7 _ e; omega
  · obtain ⟨q, hq⟩ := h.by_
    exact ⟨q, own_keep hq fun k cur hc => h5.keep hc (by decide)⟩
theorem DB.parted (h : DB w0 fb mb n f L rb ML PP wb cs u l w) (x y : Int) (hP : PP.length ≤ 16384) : Calls Try.prog 18 #[.pointer (some ⟨rb, 0, none⟩), .int .i64 x, .int .i64 y] w fun e w' => e = .returned (.bool (partedM PP x y)) ∧ DB w0 fb mb n f L rb ML PP wb cs u l w' := by
  obtain ⟨lv2, pv, h2, h3⟩ := h.md
  refine (mparted_any _ rb lv2 pv ML PP x y w h2 hP).mono ?_
  rintro e w' ⟨rfl, hb⟩
  exact ⟨rfl, h.go hb⟩
theorem DB.conv (h : DB w0 fb mb n f L rb ML PP wb cs u l w) : (convert 26 9 u).run Try.prog w = .ok (.string ⟨l.toArray⟩) w := by
  obtain ⟨q, hq⟩ := h.by_
  exact conv_reads (ReadsB.own hq)
theorem DB.wc (h : DB w0 fb mb n f L rb ML PP wb cs u l w) (j : Nat) (x : Value) (hx : cs[j]? = some x) : w.cell? ⟨wb, j, none⟩ = some x := by
  rw [cell_of_row _ _ j _ _ _ h.want]; exact hx
/-- what Deliver tells, and how both stand then -/
theorem jb_deliver (h : JB w0 fb mb n f L rb ML PP ob d a b v w) (k : Nat) (hk : k < L.length) (hL : L.length ≤ 16384) :
    Calls Try.prog 9 #[.pointer (some ⟨fb, 0, none⟩), .int .i64 k] w fun e w' => ∃ u, e = .returned (deliverV (partedB f (L[k]'hk).1.fr (L[k]'hk).1.to) (L[k]'hk).1 u) ∧ (∃ base, w'.ownsRow base 5 1 u (L[k]'hk).1.b.length (u8s (L[k]'hk).1.b)) ∧ JB w0 fb mb n f (L.eraseIdx k) rb ML PP ob d a b v w' := by
  obtain ⟨lv, h1⟩ := h.fl
  refine (fl_deliver h1 k hk hL).mono ?_
  rintro e w' ⟨u, rfl, hu, hk', lv', h2⟩
  exact ⟨u, rfl, ⟨_, hu⟩, h.keeps hk' h2⟩
theorem jb_deliver_out (h : JB w0 fb mb n f L rb ML PP ob d a b v w) (i : Int) (hi : i < 0 ∨ (L.length : Int) ≤ i) :
    Calls Try.prog 9 #[.pointer (some ⟨fb, 0, none⟩), .int .i64 i] w fun e w' => e = .returned (.tuple #[.int .i64 0, .int .i64 0, .slice none 0 0, .bool false]) ∧ JB w0 fb mb n f L rb ML PP ob d a b v w' := by
  obtain ⟨lv, h1⟩ := h.fl
  refine (fl_deliver_out h1 i hi).mono ?_
  rintro e w' ⟨rfl, h2, h3⟩
  exact ⟨rfl, h.go h3⟩
end
end Go.Proofs.Ytlieepbmmfdeoaa
