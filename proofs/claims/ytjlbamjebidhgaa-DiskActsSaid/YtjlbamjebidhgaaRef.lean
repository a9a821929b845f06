/- The reference's disk in memory, and the walks of its functions. -/
import Derived.Test.YtjlbamjebidhgaaDk
import Derived.Test.YtjlbamjebidhgaaBytesIn
namespace Go.Proofs.Ytjlbamjebidhgaa
open Go.RowKit Own

def strV (b : List UInt8) : Value := .string ⟨b.toArray⟩
def cellsQ (Q : List (Nat × List UInt8)) : List Value := Q.flatMap fun q => [.int .i64 q.1, strV q.2]
theorem cellsQ_length (Q : List (Nat × List UInt8)) : (cellsQ Q).length = Q.length * 2 := by
  induction Q with
  | nil => rfl
  | cons p L ih => simp only [cellsQ, List.flatMap_cons, List.length_append] at *; rw [ih]; simp; omega
theorem cellsQ_snoc (Q : List (Nat × List UInt8)) (q : Nat × List UInt8) : cellsQ (Q ++ [q]) = cellsQ Q ++ [.int .i64 q.1, strV q.2] := by
  simp [cellsQ]
theorem cellsQ_at {Q : List (Nat × List UInt8)} {k : Nat} (hk : k < Q.length) (j : Nat) (hj : j < 2) : (cellsQ Q)[k * 2 + j]? = [Value.int .i64 (Q[k]'hk).1, strV (Q[k]'hk).2][j]? := by
  induction Q generalizing k with
  | nil => cases hk
  | cons p L ih =>
    cases k with
    | zero =>
      simp only [cellsQ, List.flatMap_cons, Nat.zero_mul, Nat.zero_add]
      rw [List.getElem?_append_left (by simpa using hj)]
      rfl
    | succ k =>
      simp only [cellsQ, List.flatMap_cons]
      rw [List.getElem?_append_right (by simp; omega)]
      have := ih (k := k) (by simpa using hk)
      simp only [List.length_cons, List.length_nil, List.getElem_cons_succ] at *
      rw [show (k + 1) * 2 + j - (0 + 1 + 1) = k * 2 + j by omega]
      exact this
theorem infoQ : (Try.prog.info? 67).map (fun i => (i.zero, i.size, i.bytes)) = some (some (.agg #[.int .i64 0, .string ⟨#[]⟩]), 2, 24) := by kernel_rfl
theorem infoS : (Try.prog.info? 9).map (fun i => (i.zero, i.size, i.bytes)) = some (some (.string ⟨#[]⟩), 1, 16) := by kernel_rfl

/-- the types of the reference's blocks -/
def refT : List TypeId := [47, 9, 67]
structure RfAt (B rb : Nat) (sv pv : Value) (SS : List (List UInt8)) (Q : List (Nat × List UInt8)) (w : World) : Prop where
  hB : B ≤ rb
  st : w.heap[rb]? = some (.cells #[sv, pv] 47 (0, 0))
  safe : w.ownsRow B 9 1 sv SS.length (SS.map strV)
  pend : w.ownsRow B 67 2 pv Q.length (cellsQ Q)
theorem RfAt.below {B rb : Nat} {sv pv : Value} {SS : List (List UInt8)} {Q : List (Nat × List UInt8)} {w w' : World} (h : RfAt B rb sv pv SS Q w) (hb : Below w.heap.size w w') : RfAt B rb sv pv SS Q w' :=
  ⟨h.hB, (hb.block rb (Array.getElem?_eq_some_iff.1 h.st).1).trans h.st, own_below h.safe hb, own_below h.pend hb⟩
/-- nothing has turned but blocks of these types, from B on -/
structure TStep (ts : List TypeId) (B : Nat) (w w' : World) : Prop where
  below : Below B w w'
  same : ∀ k, k < w.heap.size → (∀ cur t fr, w.heap[k]? = some (.cells cur t fr) → t ∉ ts) → w'.heap[k]? = w.heap[k]?
theorem TStep.of_below {ts : List TypeId} {B : Nat} {w w' : World} (hB : B ≤ w.heap.size) (h : Below w.heap.size w w') : TStep ts B w w' := ⟨h.mono hB, fun k hk _ => h.block k hk⟩
theorem TStep.trans {ts : List TypeId} {B : Nat} {a b c : World} (h : TStep ts B a b) (k : TStep ts B b c) : TStep ts B a c :=
  ⟨h.below.trans k.below, fun i hi ht => by
    have h1 := h.same i hi ht
    rw [← h1]
    exact k.same i (Nat.lt_of_lt_of_le hi h.below.size) (fun cur t fr e => ht cur t fr (h1 ▸ e))⟩
theorem TStep.of_chg {ts : List TypeId} {B : Nat} {w w' : World} {ks : List Nat} (h : Chg ks w w') (hB : B ≤ w.heap.size) (hk : ∀ k ∈ ks, B ≤ k ∧ (k < w.heap.size → ∃ cur t fr, w.heap[k]? = some (.cells cur t fr) ∧ t ∈ ts)) : TStep ts B w w' :=
  ⟨h.below hB fun k hx => (hk k hx).1, fun k hlt ht => h.block k hlt fun hx => by
    obtain ⟨cur, t, fr, e, hm⟩ := (hk k hx).2 hlt
    exact ht cur t fr e hm⟩

theorem rref_size (B rb : Nat) (sv pv : Value) (SS : List (List UInt8)) (Q : List (Nat × List UInt8)) (w : World) (h : RfAt B rb sv pv SS Q w) : ∃ A c, sv = .slice A SS.length c := own_slice h.safe

def RErr (k : Int) (w : World) (e : Ending) (w' : World) : Prop := w = w' ∧ e = .returned (.int .i64 k)
theorem rwrite_out (B rb : Nat) (sv pv : Value) (SS : List (List UInt8)) (Q : List (Nat × List UInt8)) (at_ : Int) (v : Value) (l : List UInt8) (w : World) (h : RfAt B rb sv pv SS Q w) (hv : ReadsB w v l) (hbad : inB SS.length at_ = false ∨ l.length ≠ 64) :
    Calls Try.prog 25 #[.pointer (some ⟨rb, 0, none⟩), .int .i64 at_, v] w (RErr 1 w) := by
  obtain ⟨Av, cv, rfl⟩ := hv.slice
  obtain ⟨A, c, rfl⟩ := own_slice h.safe
  have hc0 : w.cell? ⟨rb, 0, none⟩ = some (.slice A SS.length c) := by rw [cell_of_row w rb 0 _ _ _ h.st]; rfl
  have hcase : at_ < 0 ∨ (¬ at_ < 0 ∧ (SS.length : Int) ≤ at_) ∨ (¬ at_ < 0 ∧ ¬ (SS.length : Int) ≤ at_ ∧ ((l.length : Int) != 64) = true) := by
    rcases hbad with h | h
    · simp [inB] at h; omega
    · have : ((l.length : Int) != 64) = true := bne_iff_ne.2 (by omega)
      by_cases h1 : at_ < 0
      · exact .inl h1
      · by_cases h2 : (SS.length : Int) ≤ at_
        · exact .inr (.inl ⟨h1, h2⟩)
        · exact .inr (.inr ⟨h1, h2, this⟩)
  clear h hv hbad
  rcases hcase with c1 | ⟨c1, c2⟩ | ⟨c1, c2, c3⟩
  all_goals
    go_enter Try.func25, Try.ntmps25
    go_wp2_with fail
    go_ret
    exact ⟨rfl, rfl⟩

def RWritePost (B rb : Nat) (sv : Value) (SS : List (List UInt8)) (Q : List (Nat × List UInt8)) (k : Nat) (l : List UInt8) (w : World) (e : Ending) (w' : World) : Prop :=
  ∃ pv', e = .returned (.int .i64 0) ∧ RfAt B rb sv pv' SS (Q ++ [(k, l)]) w' ∧ TStep refT B w w'
theorem rwrite_close {B rb k : Nat} {SS : List (List UInt8)} {Q : List (Nat × List UInt8)} {l : List UInt8} {w w3 : World} {sv pv pv3 : Value} (hf : RfAt B rb sv pv SS Q w)
    (hg3 : w.drew.grownBy w3 pv.ownBlock) (hown3 : w3.ownsRow B 67 2 pv3 (Q.length + 1) (cellsQ Q ++ [.int .i64 k, strV l]))
    (hs3 : w3.heap[rb]? = some (.cells #[sv, pv] 47 (0, 0))) :
    RWritePost B rb sv SS Q k l w (.returned (.int .i64 0)) (w3.setCell ⟨rb, 1, none⟩ pv3) := by
  have hrb : rb < w.heap.size := (Array.getElem?_eq_some_iff.1 hf.st).1
  refine ⟨pv3, rfl, ⟨hf.hB, ?_, ?_, ?_⟩, ?_⟩
  · have := Own.heap_setCell_same hs3 1 pv3
    simpa using this
  · have h3 : w3.ownsRow B 9 1 sv SS.length (SS.map strV) := by
      refine hf.safe.drew.kept hg3 ?_
      cases hv : sv.ownBlock with
      | none => exact .inl rfl
      | some g =>
        refine .inr fun e => ?_
        obtain ⟨c1, e1⟩ := own_type hf.safe hv
        obtain ⟨c2, e2⟩ := own_type hf.pend e.symm
        rw [e1] at e2; cases e2
    refine ownsRow_setCell_other h3 (own_ne h3 fun cur h => ?_) _
    rw [hs3] at h; cases h
  · rw [List.length_append, cellsQ_snoc]
    refine ownsRow_setCell_other hown3 (own_ne hown3 fun cur h => ?_) _
    rw [hs3] at h; cases h
  · refine TStep.of_chg (ks := rb :: pv.ownBlock.toList) (Chg.trans (ks' := rb :: pv.ownBlock.toList) (Chg.trans (ks' := rb :: pv.ownBlock.toList) (Chg.refl _ w).drew (Chg.grown hg3 fun k hk => by rw [hk]; simp) (fun x hx _ => hx)) (Chg.setCell _ (List.mem_cons_self ..)) (fun x hx _ => hx)) (Nat.le_trans hf.hB (Nat.le_of_lt hrb)) fun x hx => ?_
    rcases List.mem_cons.1 hx with rfl | hx
    · exact ⟨hf.hB, fun _ => ⟨_, _, _, hf.st, by simp [refT]⟩⟩
    · have hx' : pv.ownBlock = some x := by simpa using hx
      obtain ⟨cur, hc⟩ := own_type hf.pend hx'
      exact ⟨(hf.pend.lt x hx').1, fun _ => ⟨_, _, _, hc, by simp [refT]⟩⟩
theorem q_one (a : Int) (s : ByteArray) : ∀ u ∈ [Value.int .i64 a, .string s], u.oneCell' = true := fun u hu => by
  simp only [List.mem_cons, List.mem_nil_iff, or_false] at hu
  rcases hu with rfl | rfl <;> rfl

set_option maxRecDepth 100000 in
theorem rwrite_in (B rb k : Nat) (sv pv : Value) (SS : List (List UInt8)) (Q : List (Nat × List UInt8)) (l : List UInt8) (v : Value) (w : World) (hf : RfAt B rb sv pv SS Q w) (hk : k < SS.length) (hv : ReadsB w v l) (hl : l.length = 64) (hQ : Q.length < 16384) :
    Calls Try.prog 25 #[.pointer (some ⟨rb, 0, none⟩), .int .i64 k, v] w (RWritePost B rb sv SS Q k l w) := by
  obtain ⟨A, c, rfl⟩ := own_slice hf.pend
  obtain ⟨As, cs, rfl⟩ := own_slice hf.safe
  have hcv := conv_reads (w := w.drew) (hv.below (w1 := w.drew) ⟨rfl, rfl, rfl, Nat.le_refl _, fun _ _ => rfl⟩)
  obtain ⟨Av, cv, rfl⟩ := hv.slice
  have hc0 : w.cell? ⟨rb, 0, none⟩ = some (.slice As SS.length cs) := by rw [cell_of_row w rb 0 _ _ _ hf.st]; rfl
  have hc1 : w.cell? ⟨rb, 1, none⟩ = some (.slice A Q.length c) := by rw [cell_of_row w rb 1 _ _ _ hf.st]; rfl
  have hrb : rb < w.heap.size := (Array.getElem?_eq_some_iff.1 hf.st).1
  have q1 : (k : Int) < (SS.length : Int) := by omega
  have q0 : (0 : Int) ≤ (k : Int) := by omega
  have q2 : ¬ (SS.length : Int) ≤ (k : Int) := by omega
  have q3 : ((l.length : Int) != 64) = false := by rw [hl]; rfl
  have HF := Lib.hid hf
  have HL2 : Hid ((Q.length + 1) * 24 ≤ 140737488355328) := by show _ ≤ _; omega
  have HL3 : Hid (Q.length + 1 ≤ 140737488355328) := by show _ ≤ _; omega
  have HNE : Hid (some rb ≠ (Value.slice A Q.length c).ownBlock) := fun h => own_ne hf.pend (fun cur h2 => by rw [hf.st] at h2; cases h2) h.symm
  have hkA : ∀ o : Obj, (w.drew.alloc o).cell? ⟨rb, 1, none⟩ = some (.slice A Q.length c) := fun o => (((Below.refl w.drew.heap.size w.drew).alloc (Nat.le_refl _) o).cell (World.block_lt_of_cell? w.drew _ hc1)).trans hc1
  clear hf hl hQ hk
  go_enter Try.func25, Try.ntmps25
  go_wp2_with fail
  go_region_law (refine Own.step_append_one HF.out.pend.drew (Below.refl B w.drew) Try.underlying45 infoQ rfl (by decide) [.int .i64 k, .string ⟨l.toArray⟩] rfl (q_one _ _) (Nat.le_refl B) (Nat.le_trans HF.out.hB (Nat.le_of_lt hrb)) HL2.out HL3.out (by rfl) (by rfl) (by rfl) (by rfl) ?_; intro v1 w3 hown3 hbel3 hg3 hat3 hv3; obtain ⟨A3, c3, rfl⟩ := hv3; have hs3 := (hg3.block rb hrb HNE.out).trans HF.out.st; have hk2 : w3.cell? ⟨rb, 1, none⟩ = some (.slice A Q.length c) := hg3.cell hc1 HNE.out; have hz2 := frozen_of_block hs3 1)
  all_goals
    have HP := Lib.hid (rwrite_close (k := k) (l := l) HF.out hg3 hown3 hs3)
    clear hg3 hown3 hs3 hbel3 hat3 hk2 hz2 hkA
    go_wp2_with fail
    go_ret
    exact HP.out
end Go.Proofs.Ytjlbamjebidhgaa
