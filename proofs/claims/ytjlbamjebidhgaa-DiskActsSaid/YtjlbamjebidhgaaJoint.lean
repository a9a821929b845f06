/- The disk and the reference's, side by side; what the two say is one. -/
import Derived.Test.YtjlbamjebidhgaaRef6
namespace Go.Proofs.Ytjlbamjebidhgaa
open Go.RowKit Own

def diskT : List TypeId := [53, 5, 59]
theorem Dk.mineT {w0 w : World} {n : Nat} {D : DkS} (h : Dk w0 n D w) {k : Nat} (hk : D.mine k) : ∃ cur t, w.heap[k]? = some (.cells cur t (0, 0)) ∧ t ∈ diskT := by
  rcases hk with rfl | hk | hk | ⟨p, hp, hk⟩
  · exact ⟨_, _, h.at_.st, by simp [diskT]⟩
  · obtain ⟨cur, hc⟩ := own_type h.at_.safe hk
    exact ⟨_, _, hc, by simp [diskT]⟩
  · obtain ⟨cur, hc⟩ := own_type h.at_.pend hk
    exact ⟨_, _, hc, by simp [diskT]⟩
  · obtain ⟨cur, hc⟩ := own_type (h.at_.bytes p hp).1 hk
    exact ⟨_, _, hc, by simp [diskT]⟩
theorem Dk.not {w0 w : World} {n : Nat} {D : DkS} (h : Dk w0 n D w) {k : Nat} {cur : Array Value} {t : TypeId} {fr : Nat × Nat} (hc : w.heap[k]? = some (.cells cur t fr)) (ht : t ∉ diskT) : ¬ D.mine k := fun hm => by
  obtain ⟨cur', t', e, hm'⟩ := h.mineT hm
  rw [hc] at e
  cases e
  exact ht hm'
/-- a block of another type stays -/
theorem Dk.keep {w0 w w' : World} {n : Nat} {D D' : DkS} (h : Dk w0 n D w) (hs : Step D w D' w') {k : Nat} {cur : Array Value} {t : TypeId} {fr : Nat × Nat} (hc : w.heap[k]? = some (.cells cur t fr)) (ht : t ∉ diskT) : w'.heap[k]? = some (.cells cur t fr) :=
  (hs.same k (Array.getElem?_eq_some_iff.1 hc).1 (h.not hc ht)).trans hc
theorem TStep.keep {w w' : World} {B : Nat} {ts : List TypeId} (hs : TStep ts B w w') {k : Nat} {cur : Array Value} {t : TypeId} {fr : Nat × Nat} (hc : w.heap[k]? = some (.cells cur t fr)) (ht : t ∉ ts) : w'.heap[k]? = some (.cells cur t fr) :=
  (hs.same k (Array.getElem?_eq_some_iff.1 hc).1 (fun cur' t' fr' e => by rw [hc] at e; cases e; exact ht)).trans hc

structure Jo (w0 : World) (n : Nat) (D : DkS) (rb : Nat) (SS : List (List UInt8)) (Q : List (Nat × List UInt8)) (w : World) : Prop where
  dk : Dk w0 n D w
  rf : ∃ sv pv, RfAt w0.heap.size rb sv pv SS Q w
theorem Jo.go {w0 w w' : World} {n rb : Nat} {D : DkS} {SS : List (List UInt8)} {Q : List (Nat × List UInt8)} (h : Jo w0 n D rb SS Q w) (hb : Below w.heap.size w w') : Jo w0 n D rb SS Q w' := by
  obtain ⟨sv, pv, hr⟩ := h.rf
  exact ⟨h.dk.go hb, sv, pv, hr.below hb⟩
theorem own_keep {w w' : World} {base : Nat} {e : TypeId} {size n : Nat} {v : Value} {xs : List Value} (h : w.ownsRow base e size v n xs) (hk : ∀ (k : Nat) (cur : Array Value), w.heap[k]? = some (Obj.cells cur e (0, 0)) → w'.heap[k]? = some (Obj.cells cur e (0, 0))) : w'.ownsRow base e size v n xs :=
  own_same h fun g hg => by obtain ⟨cur, hc⟩ := own_type h hg; rw [hc]; exact hk g cur hc
theorem Jo.step {w0 w w' : World} {n rb : Nat} {D D' : DkS} {SS : List (List UInt8)} {Q : List (Nat × List UInt8)} (h : Jo w0 n D rb SS Q w) (hd : Dk w0 n D' w') (hs : Step D w D' w') : Jo w0 n D' rb SS Q w' := by
  obtain ⟨sv, pv, hr⟩ := h.rf
  exact ⟨hd, sv, pv, hr.hB, h.dk.keep hs hr.st (by simp [diskT]), own_keep hr.safe fun k cur hc => h.dk.keep hs hc (by simp [diskT]), own_keep hr.pend fun k cur hc => h.dk.keep hs hc (by simp [diskT])⟩
theorem Dk.tstep {w0 w w' : World} {n : Nat} {D : DkS} (h : Dk w0 n D w) (hs : TStep refT w0.heap.size w w') : Dk w0 n D w' :=
  ⟨⟨h.at_.hB, hs.keep h.at_.st (by simp [refT]), own_keep h.at_.safe fun k cur hc => hs.keep hc (by simp [refT]), own_keep h.at_.pend fun k cur hc => hs.keep hc (by simp [refT]), fun p hp => ⟨own_keep (h.at_.bytes p hp).1 fun k cur hc => hs.keep hc (by simp [refT]), (h.at_.bytes p hp).2⟩⟩, h.below.trans hs.below, h.len, h.pos, h.le⟩
theorem Jo.tstep {w0 w w' : World} {n rb : Nat} {D : DkS} {sv pv : Value} {SS SS' : List (List UInt8)} {Q Q' : List (Nat × List UInt8)} (h : Jo w0 n D rb SS Q w) (hs : TStep refT w0.heap.size w w') (hr : RfAt w0.heap.size rb sv pv SS' Q' w') : Jo w0 n D rb SS' Q' w' :=
  ⟨h.dk.tstep hs, sv, pv, hr⟩
/-- a byte of a row that is nobody's -/
theorem Jo.setFar {w0 w : World} {n rb : Nat} {D : DkS} {SS : List (List UInt8)} {Q : List (Nat × List UInt8)} (h : Jo w0 n D rb SS Q w) {g : Nat} (hg : w0.heap.size ≤ g) (hm : ¬ D.mine g) {cur : Array Value} (hc : w.heap[g]? = some (.cells cur 5 (0, 0))) (j : Nat) (u : Value) : Jo w0 n D rb SS Q (w.setCell ⟨g, j, none⟩ u) := by
  obtain ⟨sv, pv, hr⟩ := h.rf
  have hs : ∀ (k : Nat) (cur' : Array Value) (t : TypeId) (fr : Nat × Nat), w.heap[k]? = some (Obj.cells cur' t fr) → t ≠ 5 → (w.setCell ⟨g, j, none⟩ u).heap[k]? = some (Obj.cells cur' t fr) := fun k cur' t fr hk ht =>
    (Below.heap_setCell _ _ _ _ (by rintro rfl; rw [hc] at hk; cases hk; exact ht rfl)).trans hk
  exact ⟨h.dk.setFar hg hm j u, sv, pv, hr.hB, hs _ _ _ _ hr.st (by decide), own_keep hr.safe fun k cur' hk => hs _ _ _ _ hk (by decide), own_keep hr.pend fun k cur' hk => hs _ _ _ _ hk (by decide)⟩

/-! ### what the two say -/
structure Sync (n : Nat) (S : List UInt8) (P : List Wr) (SS : List (List UInt8)) (Q : List (Nat × List UInt8)) : Prop where
  len : SS.length = n
  all : ∀ b ∈ SS, b.length = 64
  s : S = SS.flatten
  q : P.map (fun p => (p.at_, p.b)) = Q
  qs : ∀ q ∈ Q, q.1 < n ∧ q.2.length = 64
theorem flat_take {SS : List (List UInt8)} (h : ∀ b ∈ SS, b.length = 64) : ∀ k, k ≤ SS.length → SS.flatten.take (k * 64) = (SS.take k).flatten := by
  induction SS with
  | nil => intro k hk; simp at hk; subst hk; rfl
  | cons b L ih =>
    intro k hk
    cases k with
    | zero => simp
    | succ k =>
      have hb := h b (List.mem_cons_self ..)
      rw [List.flatten_cons, List.take_append, hb, List.take_of_length_le (by omega), show (k + 1) * 64 - 64 = k * 64 by omega, ih (fun c hc => h c (List.mem_cons_of_mem _ hc)) k (by simpa using hk)]
      simp
theorem flat_drop {SS : List (List UInt8)} (h : ∀ b ∈ SS, b.length = 64) : ∀ k, k ≤ SS.length → SS.flatten.drop (k * 64) = (SS.drop k).flatten := by
  induction SS with
  | nil => intro k hk; simp at hk; subst hk; rfl
  | cons b L ih =>
    intro k hk
    cases k with
    | zero => simp
    | succ k =>
      have hb := h b (List.mem_cons_self ..)
      rw [List.flatten_cons, List.drop_append, hb, List.drop_eq_nil_of_le (by omega), show (k + 1) * 64 - 64 = k * 64 by omega, ih (fun c hc => h c (List.mem_cons_of_mem _ hc)) k (by simpa using hk)]
      simp
theorem flat_sector {SS : List (List UInt8)} (h : ∀ b ∈ SS, b.length = 64) {k : Nat} (hk : k < SS.length) : sectorOf SS.flatten k = SS.getD k [] := by
  unfold sectorOf
  rw [flat_drop h k (by omega), List.drop_eq_getElem_cons hk, List.flatten_cons, List.take_left' (h _ (List.getElem_mem hk)), List.getD_eq_getElem?_getD, List.getElem?_eq_getElem hk]
  rfl
theorem flat_patch {SS : List (List UInt8)} (h : ∀ b ∈ SS, b.length = 64) {k : Nat} (hk : k < SS.length) (b : List UInt8) : patch SS.flatten k b = (SS.set k b).flatten := by
  unfold patch
  rw [flat_take h k (by omega), show k * 64 + 64 = (k + 1) * 64 by omega, flat_drop h (k + 1) (by omega), List.set_eq_take_append_cons_drop, if_pos hk]
  simp [List.append_assoc]
theorem set_all {SS : List (List UInt8)} (h : ∀ b ∈ SS, b.length = 64) (k : Nat) {b : List UInt8} (hb : b.length = 64) : ∀ c ∈ SS.set k b, c.length = 64 := fun c hc => by
  rcases List.mem_or_eq_of_mem_set hc with h1 | rfl
  · exact h c h1
  · exact hb
theorem crash_sync {n : Nat} {S : List UInt8} {P : List Wr} {SS : List (List UInt8)} {Q : List (Nat × List UInt8)} (h : Sync n S P SS Q) (cs : List Bool) (f : Nat → Bool) (hf : ∀ j, j < Q.length → f j = cs.getD j false) :
    ∀ j, j ≤ Q.length → crashD S (P.take j) cs = (crashR SS Q f j).flatten ∧ ∀ b ∈ crashR SS Q f j, b.length = 64
  | 0, _ => by
    rw [List.take_zero, crashD, crashR]
    exact ⟨h.s, h.all⟩
  | j + 1, hj => by
    obtain ⟨ih1, ih2⟩ := crash_sync h cs f hf j (by omega)
    have hP : j < P.length := by have := congrArg List.length h.q; simp at this; omega
    have hq : Q[j]'(by omega) = ((P[j]'hP).at_, (P[j]'hP).b) := by
      have : (P.map fun p => (p.at_, p.b))[j]'(by simpa using hP) = ((P[j]'hP).at_, (P[j]'hP).b) := by simp
      rw [← this]
      congr 1
      exact h.q.symm
    have hqs := h.qs _ (List.getElem_mem (show j < Q.length by omega))
    rw [crashD_take P S cs j hP, crashR_succ SS Q f j (by omega), ← hf j (by omega), ih1]
    rw [hq] at hqs ⊢
    split
    · exact ⟨flat_patch ih2 (by rw [crashR_length, h.len]; exact hqs.1) _, set_all ih2 _ hqs.2⟩
    · exact ⟨rfl, ih2⟩
theorem Sync.crash {n : Nat} {S : List UInt8} {P : List Wr} {SS : List (List UInt8)} {Q : List (Nat × List UInt8)} (h : Sync n S P SS Q) (cs : List Bool) (f : Nat → Bool) (hf : ∀ j, j < Q.length → f j = cs.getD j false) :
    Sync n (crashD S P cs) [] (crashR SS Q f Q.length) [] := by
  obtain ⟨h1, h2⟩ := crash_sync h cs f hf Q.length (Nat.le_refl _)
  have hl : P.length = Q.length := by have := congrArg List.length h.q; simpa using this
  rw [← hl, List.take_length] at h1
  exact ⟨by rw [crashR_length]; exact h.len, h2, by rw [h1, hl], rfl, fun q hq => by cases hq⟩
theorem Sync.read {n k : Nat} {S : List UInt8} {P : List Wr} {SS : List (List UInt8)} {Q : List (Nat × List UInt8)} (h : Sync n S P SS Q) (hk : k < n) : readD S P k = readR SS Q k := by
  unfold readD readR
  rw [h.s, flat_sector h.all (by rw [h.len]; exact hk), ← h.q]
  rw [List.foldl_map]
theorem Sync.write {n : Nat} {S : List UInt8} {P : List Wr} {SS : List (List UInt8)} {Q : List (Nat × List UInt8)} (h : Sync n S P SS Q) (p : Wr) (hp : p.at_ < n) (hb : p.b.length = 64) : Sync n S (P ++ [p]) SS (Q ++ [(p.at_, p.b)]) :=
  ⟨h.len, h.all, h.s, by rw [List.map_append, h.q]; rfl, fun q hq => by
    rcases List.mem_append.1 hq with hq | hq
    · exact h.qs q hq
    · rw [List.mem_singleton.1 hq]; exact ⟨hp, hb⟩⟩
theorem Sync.rot {n q r : Nat} {S : List UInt8} {P : List Wr} {SS : List (List UInt8)} {Q : List (Nat × List UInt8)} (h : Sync n S P SS Q) (hq : q < n) (hr : r < 64) (x : UInt8) :
    Sync n (S.set (q * 64 + r) (S.getD (q * 64 + r) 0 ^^^ x)) P (SS.set q ((SS.getD q []).set r ((SS.getD q []).getD r 0 ^^^ x))) Q := by
  have hql : q < SS.length := by rw [h.len]; exact hq
  have hsec : SS.getD q [] = SS[q]'hql := by rw [List.getD_eq_getElem?_getD, List.getElem?_eq_getElem hql]; rfl
  have h64 : (SS.getD q []).length = 64 := by rw [hsec]; exact h.all _ (List.getElem_mem hql)
  refine ⟨by rw [List.length_set]; exact h.len, set_all h.all q (by rw [List.length_set]; exact h64), ?_, h.q, h.qs⟩
  have hflat := flat_le h.all
  have hget : S.getD (q * 64 + r) 0 = (SS.getD q []).getD r 0 := by
    rw [← flat_sector h.all hql, ← h.s]
    unfold sectorOf
    rw [List.getD_eq_getElem?_getD, List.getD_eq_getElem?_getD, List.getElem?_take, if_pos hr, List.getElem?_drop]
  rw [← flat_patch h.all hql, ← h.s, hget]
  generalize (SS.getD q []).getD r 0 ^^^ x = y
  have hS : S.length = n * 64 := by rw [h.s, hflat, h.len]
  have hpart : SS.getD q [] = (S.drop (q * 64)).take 64 := by rw [h.s]; exact (flat_sector h.all hql).symm
  unfold patch
  rw [hpart]
  refine List.ext_getElem? fun i => ?_
  rw [List.append_assoc]
  by_cases h1 : i < q * 64
  · rw [List.getElem?_append_left (by rw [List.length_take]; omega), List.getElem?_take, if_pos h1, List.getElem?_set_ne (by omega)]
  · rw [List.getElem?_append_right (by rw [List.length_take]; omega), List.length_take, Nat.min_eq_left (by omega)]
    by_cases h2 : i < q * 64 + 64
    · rw [List.getElem?_append_left (by rw [List.length_set, List.length_take, List.length_drop]; omega)]
      by_cases h3 : i = q * 64 + r
      · subst h3
        rw [List.getElem?_set_self (by omega), show q * 64 + r - q * 64 = r by omega, List.getElem?_set_self (by rw [List.length_take, List.length_drop]; omega)]
      · rw [List.getElem?_set_ne (by omega), List.getElem?_set_ne (by omega), List.getElem?_take, if_pos (by omega), List.getElem?_drop, show q * 64 + (i - q * 64) = i by omega]
    · rw [List.getElem?_append_right (by rw [List.length_set, List.length_take, List.length_drop]; omega), List.length_set, List.length_take, List.length_drop, Nat.min_eq_left (by omega), List.getElem?_drop, List.getElem?_set_ne (by omega)]
      congr 1
      omega
end Go.Proofs.Ytjlbamjebidhgaa
