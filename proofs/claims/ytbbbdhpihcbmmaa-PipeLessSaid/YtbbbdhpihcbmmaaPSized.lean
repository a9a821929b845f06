/- pipe's sized and written: bytes, so many; bytes of which some are others. -/
import Derived.Test.YtbbbdhpihcbmmaaPCheck
import Derived.Deep.AppendSrc
import Derived.Laws.IdiomCopy
namespace Go.Proofs.Ytbbbdhpihcbmmaa
open Go.RowKit Own

theorem below_cells {B b : Nat} {w w' : World} (h : Below B w w') (hb : B ≤ b) (vs : List Value) (o : Nat) : Below B w (w'.setCells b o vs) := by
  have hr := setCells_rest (b := b) vs o w'
  exact ⟨hr.1.trans h.os, hr.2.1.trans h.tape, hr.2.2.1.trans h.output, by rw [hr.2.2.2]; exact h.size, fun k hk => (heap_setCells_other vs o w' k (by omega)).trans (h.block k hk)⟩
def zeros (n : Nat) : List UInt8 := List.replicate n 0
theorem zeros_cells (n : Nat) : u8s (zeros n) = List.replicate n (.int .u8 0) := by simp [u8s, zeros]
theorem zeroCells_u8 (n : Nat) : Builtin.zeroCells (Value.int .u8 0).cells n = (List.replicate n (Value.int .u8 0)).toArray := by
  apply Array.ext'
  simp only [Builtin.zeroCells, Value.cells]
  apply List.ext_getElem
  · simp
  · intro i h1 h2
    simp [Nat.mod_one]

theorem run_zeros_room (w : World) (ty : TypeId) (b sLen sCap n : Nat) (hn : 0 < n) (hs : n ≤ 1048576) (hroom : sLen + n ≤ sCap) (hc : ∀ j, j < n → (w.cell? ⟨b, sLen + j, none⟩).isSome = true) (hf : ∀ j, j < n → w.frozen? ⟨b, sLen + j, none⟩ = false) :
    (Builtin.append_ #[23, 3] ty #[.slice (some ⟨b, 0, none⟩) sLen sCap, .int .i64 n]).run Try.prog w = .ok (.slice (some ⟨b, 0, none⟩) (sLen + n) sCap) (w.setCells b sLen (List.replicate n (.int .u8 0))) := by
  obtain ⟨i0, hi, hz0, hz1, hz2⟩ := info_parts infoByte
  have hst := run_storeCells_cells (P := Try.prog) b sLen (List.replicate n (Value.int .u8 0)) 0 w (by simpa using hc) (by simpa using hf) (fun u hu => by rw [(List.mem_replicate.1 hu).2]; rfl)
  simp only [Nat.add_zero] at hst
  have hw : IntKind.i64.wrap (n : Int) = (n : Int) := by rw [IntKind.wrap_i64]; omega
  have h0 : ¬ ((n : Int) < 0) := by omega
  have h48 : ¬ (281474976710656 < (n : Int)) := by omega
  have hne : ¬ n = 0 := by omega
  simp [Builtin.append_, run_underlying Try.underlying23, run_underlying Try.underlying3, sizeOf, typeInfo, zeroValue, hi, hz0, hz1, hz2, hroom, Addr.add_lit, hst, hw, asInt, asIntOf, zeroCells_u8, hne, h0, h48]
theorem run_zeros_grow (w : World) (ty : TypeId) (base : Option Addr) (sLen sCap n : Nat) (olds : List Value) (hn : 0 < n) (hs : sLen + n ≤ 1048576)
    (hold : (Builtin.firstCells 1 sLen (.slice base sLen sCap)).run Try.prog w.drew = .ok olds.toArray w.drew) (hg : sCap < sLen + n) :
    (Builtin.append_ #[23, 3] ty #[.slice base sLen sCap, .int .i64 n]).run Try.prog w =
      .ok (.slice (some ⟨w.heap.size, 0, none⟩) (sLen + n) (grownCap w (sLen + n) sCap 5)) (w.drew.alloc (.cells ((olds ++ List.replicate n (Value.int .u8 0)).toArray ++ Builtin.zeroCells (Value.int .u8 0).cells (grownCap w (sLen + n) sCap 5 - (sLen + n))) 5)) := by
  obtain ⟨i0, hi, hz0, hz1, hz2⟩ := info_parts infoByte
  have hw : IntKind.i64.wrap (n : Int) = (n : Int) := by rw [IntKind.wrap_i64]; omega
  have hne : ¬ n = 0 := by omega
  have h0 : ¬ ((n : Int) < 0) := by omega
  have h48 : ¬ (281474976710656 < (n : Int)) := by omega
  have hn' : ¬ (sLen + n ≤ sCap) := by omega
  have h63' : ¬ (9223372036854775807 < ((sLen : Int) + (n : Int))) := by omega
  have hfit : Builtin.nextslicecap (sLen + n) sCap * 1 ≤ 281474976710656 := growslice_fits (by omega) (by omega)
  have h48' : ¬ (281474976710656 < Builtin.nextslicecap (sLen + n) sCap) := by omega
  simp [Builtin.append_, run_underlying Try.underlying23, run_underlying Try.underlying3, sizeOf, typeInfo, zeroValue, hi, hz0, hz1, hz2, hn', h63', h48', Question.forced, hold, newRow, grownCap, hw, asInt, asIntOf, zeroCells_u8, hne, h0, h48]
  congr 2
  apply Array.ext'
  simp [List.append_assoc, List.replicate_append_replicate]

/-- 'append(b, make([]byte, n)...)' onto bytes of one's own -/
theorem run_append_zeros (w : World) (base n : Nat) (v : Value) (xs : List UInt8) (ty : TypeId) (hown : w.ownsRow base 5 1 v xs.length (u8s xs)) (hb : xs.length + n ≤ 1048576) (hn : 0 < n) (hbase : base ≤ w.heap.size) :
    ∃ g' cap' w', (Builtin.append_ #[23, 3] ty #[v, .int .i64 n]).run Try.prog w = .ok (.slice (some ⟨g', 0, none⟩) (xs ++ zeros n).length cap') w' ∧
      w'.ownsRow base 5 1 (.slice (some ⟨g', 0, none⟩) (xs ++ zeros n).length cap') (xs ++ zeros n).length (u8s (xs ++ zeros n)) ∧ Below base w w' := by
  obtain ⟨i0, hi, hz0, hz1, hz2⟩ := info_parts infoByte
  have hlen : (xs ++ zeros n).length = xs.length + n := by simp [zeros]
  have hu : u8s (xs ++ zeros n) = u8s xs ++ List.replicate n (Value.int .u8 0) := by simp [u8s, zeros]
  have hrl : (List.replicate n (Value.int .u8 0)).length = n := List.length_replicate
  have hgrow : ∀ (A : Option Addr) (cap : Nat), (Builtin.firstCells 1 xs.length (.slice A xs.length cap)).run Try.prog w.drew = .ok (u8s xs).toArray w.drew → cap < xs.length + n →
      ∃ g' cap' w', (Builtin.append_ #[23, 3] ty #[.slice A xs.length cap, .int .i64 n]).run Try.prog w = .ok (.slice (some ⟨g', 0, none⟩) (xs ++ zeros n).length cap') w' ∧
      w'.ownsRow base 5 1 (.slice (some ⟨g', 0, none⟩) (xs ++ zeros n).length cap') (xs ++ zeros n).length (u8s (xs ++ zeros n)) ∧ Below base w w' := fun A cap hold hg => by
    have hr := run_zeros_grow w ty A xs.length cap n (u8s xs) hn hb hold hg
    refine ⟨w.heap.size, _, _, by rw [hlen]; exact hr, ?_, (show Below base w w.drew from ⟨rfl, rfl, rfl, Nat.le_refl _, fun _ _ => rfl⟩).alloc hbase _⟩
    have hge := grownCap_ge w (xs.length + n) cap 5
    refine ⟨by rw [u8s_length, Nat.mul_one], .inr ⟨w.heap.size, _, _, rfl, hbase, heap_alloc_new w.drew _, by rw [hlen]; exact hge, grownCap_le_maxLen w _ cap _ (by simp only [maxLen]; omega), ?_, ?_⟩⟩
    · simp only [Array.size_append, List.size_toArray, List.length_append, size_zeroCells, u8s_length, Value.cells, hrl]
      simp
      omega
    · rw [hu]
      simp only [Array.toList_append]
      exact List.take_left' (by simp [u8s_length, zeros])
  rcases hown.2 with ⟨rfl, h0⟩ | ⟨g, cap, cur, rfl, hg, hh, hc, hm, hcs, hx⟩
  · obtain rfl : xs = [] := List.eq_nil_of_length_eq_zero h0
    exact hgrow none 0 (run_firstCells_none w.drew 1 0 0 0) (by simp; omega)
  · by_cases hroom : xs.length + n ≤ cap
    · have hr := run_zeros_room w ty g xs.length cap n hn (by omega) hroom
        (fun j hj => by
          rw [cell_of_row w g _ cur _ (0, 0) hh, Array.getElem?_eq_getElem (by rw [hcs]; omega)]; rfl)
        (fun j _ => frozen_of_block hh _)
      refine ⟨g, cap, _, by rw [hlen]; exact hr, ?_, below_cells (Below.refl _ _) hg _ _⟩
      refine ⟨by rw [u8s_length, Nat.mul_one], .inr ⟨g, cap, _, rfl, hg, heap_setCells (List.replicate n (Value.int .u8 0)) _ w cur hh, by omega, hm, by rw [setL_size]; exact hcs, ?_⟩⟩
      rw [setL_list _ _ _ (by rw [hrl, hcs]; omega), hu, hrl]
      have hcl : cur.toList.length = cap * 1 := by rw [Array.length_toList, hcs]
      rw [List.append_assoc, hlen, Nat.mul_one]
      rw [Nat.mul_one] at hx
      rw [hx, ← List.append_assoc]
      exact List.take_left' (by rw [List.length_append, u8s_length, hrl])
    · exact hgrow _ cap (run_firstCells_some w.drew 1 xs.length ⟨g, 0, none⟩ xs.length cap (u8s xs) (by rw [u8s_length, Nat.mul_one]) (fun j u hju => hown.cells (g := g) rfl j u hju)) (by omega)

/-- bytes in new memory; their row may be longer than they are -/
def OwnB (base : Nat) (v : Value) (l : List UInt8) (w : World) : Prop :=
  (v = .slice none 0 0 ∧ l = []) ∨ ∃ g c cur, v = .slice (some ⟨g, 0, none⟩) l.length c ∧ base ≤ g ∧ w.heap[g]? = some (.cells cur 5 (0, 0)) ∧ l.length ≤ c ∧ c ≤ cur.size ∧ c ≤ maxLen ∧ cur.toList.take l.length = u8s l
theorem OwnB.of_row {base : Nat} {v : Value} {l : List UInt8} {w : World} (h : w.ownsRow base 5 1 v l.length (u8s l)) : OwnB base v l w := by
  rcases h.2 with ⟨rfl, h0⟩ | ⟨g, cap, cur, rfl, hg, hh, hc, hm, hcs, hx⟩
  · exact .inl ⟨rfl, List.eq_nil_of_length_eq_zero h0⟩
  · exact .inr ⟨g, cap, cur, rfl, hg, hh, hc, by omega, hm, by simpa using hx⟩
theorem OwnB.below {base : Nat} {v : Value} {l : List UInt8} {w w' : World} (h : OwnB base v l w) (hb : Below w.heap.size w w') : OwnB base v l w' := by
  rcases h with h | ⟨g, c, cur, h1, h2, h3, h4⟩
  · exact .inl h
  · exact .inr ⟨g, c, cur, h1, h2, (hb.block g (Array.getElem?_eq_some_iff.1 h3).1).trans h3, h4⟩
theorem OwnB.mono {base base' : Nat} {v : Value} {l : List UInt8} {w : World} (h : OwnB base v l w) (hb : base' ≤ base) : OwnB base' v l w := by
  rcases h with h | ⟨g, c, cur, h1, h2, h3, h4⟩
  · exact .inl h
  · exact .inr ⟨g, c, cur, h1, Nat.le_trans hb h2, h3, h4⟩
theorem OwnB.reads {base : Nat} {v : Value} {l : List UInt8} {w : World} (h : OwnB base v l w) : ReadsB w v l := by
  rcases h with h | ⟨g, c, cur, rfl, h2, h3, h4, h5, h6, h7⟩
  · exact .inl h
  · refine .inr ⟨⟨g, 0, none⟩, c, rfl, fun j u hu => ?_⟩
    rw [Addr.add_lit, Nat.zero_add, cell_of_row w g j cur _ (0, 0) h3, ← Array.getElem?_toList]
    rw [← h7, List.getElem?_take] at hu
    split at hu
    · exact hu
    · cases hu
/-- 'b[:n:n]' -/
theorem OwnB.cut {base : Nat} {l : List UInt8} {w : World} {g c : Nat} (h : OwnB base (.slice (some ⟨g, 0, none⟩) l.length c) l w) (n : Nat) (hn : n ≤ l.length) : OwnB base (.slice (some ⟨g, 0, none⟩) n n) (l.take n) w := by
  rcases h with ⟨h, _⟩ | ⟨g', c', cur, h1, h2, h3, h4, h5, h6, h7⟩
  · cases h
  · cases h1
    have e : (l.take n).length = n := by rw [List.length_take]; omega
    refine .inr ⟨g, n, cur, by rw [e], h2, h3, by omega, by omega, by omega, ?_⟩
    rw [e]
    have := congrArg (List.take n) h7
    rw [List.take_take, show min n l.length = n by omega] at this
    rw [this]; simp [u8s]

def sizedL (b : List UInt8) (n : Nat) : List UInt8 := if n ≤ b.length then b.take n else b ++ zeros (n - b.length)
theorem sizedL_len (b : List UInt8) (n : Nat) : (sizedL b n).length = n := by
  unfold sizedL
  split
  · rw [List.length_take]; omega
  · simp [zeros]; omega
end Go.Proofs.Ytbbbdhpihcbmmaa
