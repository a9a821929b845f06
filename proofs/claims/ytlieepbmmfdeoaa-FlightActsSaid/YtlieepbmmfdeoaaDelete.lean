/- slices.Delete of one element of three cells, of a slice that the call owns. -/
import Derived.Test.YtlieepbmmfdeoaaFlight2
import Derived.ArgAppend
namespace Go.Proofs.Ytlieepbmmfdeoaa
open Go.RowKit Own

theorem cellsOf_append (L M : List (Msg × Value)) : cellsOf (L ++ M) = cellsOf L ++ cellsOf M := by simp [cellsOf]
theorem cellsOf_cons (p : Msg × Value) (L : List (Msg × Value)) : cellsOf (p :: L) = .int .i64 p.1.fr :: .int .i64 p.1.to :: p.2 :: cellsOf L := by simp [cellsOf]
theorem cellsOf_take : ∀ (L : List (Msg × Value)) (k : Nat), cellsOf (L.take k) = (cellsOf L).take (k * 3)
  | _, 0 => by simp [cellsOf]
  | [], k + 1 => by simp [cellsOf]
  | p :: L, k + 1 => by
    rw [List.take_succ_cons, cellsOf_cons, cellsOf_cons, cellsOf_take L k, show (k + 1) * 3 = k * 3 + 1 + 1 + 1 by omega, List.take_succ_cons, List.take_succ_cons, List.take_succ_cons]
theorem cellsOf_drop : ∀ (L : List (Msg × Value)) (k : Nat), cellsOf (L.drop k) = (cellsOf L).drop (k * 3)
  | _, 0 => by simp
  | [], k + 1 => by simp [cellsOf]
  | p :: L, k + 1 => by
    rw [List.drop_succ_cons, cellsOf_cons, cellsOf_drop L k, show (k + 1) * 3 = k * 3 + 1 + 1 + 1 by omega, List.drop_succ_cons, List.drop_succ_cons, List.drop_succ_cons]
theorem eraseIdx_eq (L : List (Msg × Value)) (k : Nat) : L.eraseIdx k = L.take k ++ L.drop (k + 1) := List.eraseIdx_eq_take_drop_succ ..

/-- what Delete leaves of the row -/
def delRow (cur : Array Value) (k n : Nat) : Array Value :=
  setL (setL cur (k * 3) ((cur.toList.take (n * 3)).drop ((k + 1) * 3))) ((n - 1) * 3) [.int .i64 0, .int .i64 0, .slice none 0 0]
theorem delRow_take (cur : Array Value) (k n : Nat) (L : List (Msg × Value)) (hk : k < n) (hn : n = L.length) (hc : n * 3 ≤ cur.size) (hL : cur.toList.take (n * 3) = cellsOf L) :
    (delRow cur k n).toList.take ((n - 1) * 3) = cellsOf (L.eraseIdx k) := by
  have hlen : ((cur.toList.take (n * 3)).drop ((k + 1) * 3)).length = (n - (k + 1)) * 3 := by
    rw [List.length_drop, List.length_take, Array.length_toList]; omega
  unfold delRow
  rw [setL_list _ _ _ (by rw [setL_size]; simp; omega), List.append_assoc, List.take_append_of_le_length (by rw [List.length_take, Array.length_toList, setL_size]; omega), List.take_take, Nat.min_self]
  rw [setL_list _ _ _ (by rw [hlen]; omega), hL, eraseIdx_eq, cellsOf_append, cellsOf_take, cellsOf_drop]
  have e1 : cur.toList.take (k * 3) = (cellsOf L).take (k * 3) := by rw [← hL, List.take_take, Nat.min_eq_left (by omega)]
  rw [e1, List.take_append_of_le_length]
  · rw [List.take_of_length_le]
    rw [List.length_append, List.length_take, List.length_drop, cellsOf_length]; omega
  · rw [List.length_append, List.length_take, List.length_drop, cellsOf_length]; omega

theorem run_clear_one {P : Program} (w : World) (t e ty : TypeId) (x y z : Value) (ht : P.underlying t = some (.slice e)) (hv : ∀ w, (zeroValue e).run P w = .ok (.agg #[x, y, z]) w) (hx : x.oneCell' = true) (hy : y.oneCell' = true) (hz : z.oneCell' = true) (b o c : Nat)
    (hcx : x.cells = #[x]) (hcy : y.cells = #[y]) (hcz : z.cells = #[z])
    (hc : ∀ j, j < 3 → (w.cell? ⟨b, o + j, none⟩).isSome = true) (hf : ∀ j, j < 3 → w.frozen? ⟨b, o + j, none⟩ = false) :
    (Builtin.clear_ #[t] ty #[.slice (some ⟨b, o, none⟩) 1 c]).run P w = .ok (.tuple #[]) (w.setCells b o [x, y, z]) := by
  have hzc : (Builtin.zeroCells (Value.agg #[x, y, z]).cells 1).toList = [x, y, z] := by
    simp [Builtin.zeroCells, Value.cells]
    rfl
  have hst := run_storeCells_cells (P := P) b o [x, y, z] 0 w (by simpa using hc) (by simpa using hf) (by
    intro v hv'
    simp only [List.mem_cons, List.mem_nil_iff, or_false] at hv'
    rcases hv' with rfl | rfl | rfl <;> assumption)
  simp only [Nat.add_zero] at hst
  simp [Builtin.clear_, run_underlying ht, hv, hzc, hst]

def DelPost (B g k n cap : Nat) (cur : Array Value) (w : World) (e : Ending) (w' : World) : Prop :=
  e = .returned (.slice (some ⟨g, 0, none⟩) (n - 1) cap) ∧ w'.heap[g]? = some (.cells (delRow cur k n) 55 (0, 0)) ∧ Chg [g] w w' ∧ B ≤ g

theorem chg_setCells {b : Nat} (vs : List Value) (o : Nat) (w : World) : Chg [b] w (w.setCells b o vs) := by
  have h := setCells_rest (b := b) vs o w
  exact ⟨h.1, h.2.1, h.2.2.1, Nat.le_of_eq h.2.2.2.symm, fun k _ hk => heap_setCells_other vs o w k (by simpa using hk)⟩

set_option maxHeartbeats 1600000 in
set_option maxRecDepth 1000000 in
theorem del_any (B g k n cap : Nat) (cur : Array Value) (w : World) (hg : w.heap[g]? = some (.cells cur 55 (0, 0))) (hB : B ≤ g) (hk : k < n) (hn : n ≤ 16384) (hcap : n ≤ cap) (hcm : cap ≤ 9223372036854775807) (hsz : cur.size = cap * 3)
    (hone : ∀ u ∈ cur.toList.take (n * 3), u.oneCell' = true) :
    Calls Try.prog 24 #[.slice (some ⟨g, 0, none⟩) n cap, .int .i64 k, .int .i64 ((k : Int) + 1)] w (DelPost B g k n cap cur w) := by
  obtain ⟨p, rfl⟩ : ∃ p, n = p + 1 := ⟨n - 1, by omega⟩
  have hlen : ((cur.toList.take ((p + 1) * 3)).drop ((k + 1) * 3)).length = (p - k) * 3 := by
    rw [List.length_drop, List.length_take, Array.length_toList]; omega
  obtain ⟨news, hnews⟩ : ∃ news, news = (cur.toList.take ((p + 1) * 3)).drop ((k + 1) * 3) := ⟨_, rfl⟩
  have s1 : Hid (news.length = (p - k) * 3) := by show _ = _; rw [hnews]; exact hlen
  have s2 : Hid (∀ u ∈ news, u.oneCell' = true) := by
    intro u hu
    rw [hnews] at hu
    exact hone u (List.mem_of_mem_drop hu)
  have s3 : Hid (∀ j, j < news.length → (w.drew.cell? ⟨g, 0 + k * 3 + j, none⟩).isSome = true ∧ w.drew.frozen? ⟨g, 0 + k * 3 + j, none⟩ = false) := by
    intro j hj
    rw [s1.out] at hj
    refine ⟨?_, frozen_of_block (w := w.drew) hg _⟩
    rw [cell_of_row w.drew g _ cur _ (0, 0) hg]
    simp; omega
  obtain ⟨A, hA, hat⟩ : ∃ A : Addr, (if cap = k + 1 then some (⟨g, 0, none⟩ : Addr) else some ⟨g, (k + 1) * 3, none⟩) = some A ∧ Hid (∀ j u, news[j]? = some u → w.drew.cell? (A.add j) = some u) := by
    by_cases h : cap = k + 1
    · refine ⟨⟨g, 0, none⟩, by simp [h], fun j u hu => ?_⟩
      have h0 : news.length = 0 := by rw [s1.out]; omega
      rw [List.length_eq_zero_iff.1 h0] at hu
      simp at hu
    · refine ⟨⟨g, (k + 1) * 3, none⟩, by simp [h], fun j u hu => ?_⟩
      have hj : j < (p - k) * 3 := by rw [← s1.out]; exact (List.getElem?_eq_some_iff.1 hu).1
      rw [Addr.add_lit, cell_of_row w.drew g _ cur _ (0, 0) hg]
      rw [hnews, List.getElem?_drop, List.getElem?_take, if_pos (by omega)] at hu
      rw [← Array.getElem?_toList]; exact hu
  have b1 : (k : Int) < (p : Int) + 1 := by omega
  have b2 : (p : Int) + 1 ≤ (cap : Int) := by omega
  have f1 : k ≤ cap := by omega
  have f2 : k + 1 ≤ p + 1 := by omega
  have f3 : k + 1 ≤ cap := by omega
  have f4 : (0 : Int) ≤ (k : Int) + 1 := by omega
  have f5 : (k : Int) + 1 ≤ (p : Int) + 1 := by omega
  have f6 : k ≤ p := by omega
  have f7 : p ≤ cap := by omega
  have f8 : p + 1 ≤ cap := by omega
  have f9 : ((k : Int) + 1).toNat = k + 1 := by omega
  have f10 : ¬ cap = p := by omega
  have b3 : (cap : Int) ≤ 9223372036854775807 := by omega
  have hne : ((k : Int) == (k : Int) + 1) = false := beq_eq_false_iff_ne.2 (by omega)
  have hkp : k + (p - k) = p := by omega
  have hw2 : Hid ((w.drew.setCells g (k * 3) news).heap[g]? = some (.cells (setL cur (k * 3) news) 55 (0, 0))) := heap_setCells news (k * 3) w.drew cur hg
  obtain ⟨w2, hw2e⟩ : ∃ w2, w2 = w.drew.setCells g (k * 3) news := ⟨_, rfl⟩
  rw [← hw2e] at hw2
  have hzv : ∀ w, (zeroValue 55).run Try.prog w = .ok (.agg #[.int .i64 0, .int .i64 0, .slice none 0 0]) w := fun w => by
    obtain ⟨i0, hi, hzz⟩ := Option.map_eq_some_iff.1 infoMsg
    simp only [Prod.mk.injEq] at hzz
    simp [zeroValue, typeInfo, hi, hzz.1]
  have hclr : ∀ ty, (Builtin.clear_ #[47] ty #[.slice (some ⟨g, p * 3, none⟩) 1 (cap - p)]).run Try.prog w2 = .ok (.tuple #[]) (w2.setCells g (p * 3) [.int .i64 0, .int .i64 0, .slice none 0 0]) := fun ty => by
    refine run_clear_one w2 _ _ ty _ _ _ Try.underlying47 hzv rfl rfl rfl g (p * 3) _ rfl rfl rfl (fun j hj => ?_) (fun j hj => frozen_of_block hw2.out _)
    rw [cell_of_row w2 g _ _ _ (0, 0) hw2.out]
    simp [setL_size]; omega
  obtain ⟨i0, hi, hz0, hz1, hz2⟩ := info_parts infoMsg
  have HN := Lib.hid hnews
  have HG := Lib.hid hg
  have HW := Lib.hid hw2e
  have HO := Lib.hid hone
  clear hnews hlen hg hw2e hone hzv
  go_enter Try.func24, Try.ntmps24
  go_wp2_with fail
  go_region_law (refine step_append_room rfl (.tmp 22) (.tmp 25) 47 rfl 55 i0 3 Try.underlying47 hi hz1 g 0 k cap (by simp [Act.eval, Act.put]) A (p - k) (cap - (k + 1)) news (by simp [Act.eval, Act.put]) s1.out hat.out s2.out (by omega) s3.out ?_)
  rw [← HW.out]
  go_wp2_with fail
  go_ret
  refine ⟨rfl, ?_, ?_, hB⟩
  · have h3 := heap_setCells [.int .i64 0, .int .i64 0, .slice none 0 0] (p * 3) w2 _ hw2.out
    rw [delRow, ← HN.out]
    exact h3
  · rw [HW.out]
    exact (((Chg.refl [g] w).drew).trans (chg_setCells _ _ _) (fun x hx _ => hx)).trans (chg_setCells _ _ _) (fun x hx _ => hx)
end Go.Proofs.Ytlieepbmmfdeoaa
