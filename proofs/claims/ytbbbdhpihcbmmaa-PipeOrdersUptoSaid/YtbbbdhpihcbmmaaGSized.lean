/- pipe's sized and written: bytes, so many; bytes of which some are others. The walks of pipe's sized and written. -/
import Derived.Test.YtbbbdhpihcbmmaaPCheck
import Derived.Deep.AppendSrc
import Derived.Laws.IdiomCopy
namespace Go.Proofs.Ytbbbdhpihcbmmaa
open Go.RowKit Own

theorem below_cells {B b : Nat} {w w' : World} (h : Below B w w') (hb : B ≤ b) (vs : List Value) (o : Nat) : Below B w (w'.setCells b o vs) := by
  have hr := setCells_rest (b := b) vs o w'
  exact ⟨hr.1.trans h.os, hr.2.1.trans h.tape, hr.2.2.1.trans h.output, by rw [hr.2.2.2]; exact h.size, fun k hk => (heap_setCells_other vs o w' k (by omega)).trans (h.block k hk)⟩
def zeros (n : Nat) : List UInt8 := List.replicate n 0
theorem zeros_cells (n : Nat) : u8s (zeros n) = List.replicate n (.int .u8 0) := by simp [u8s, zeros]
theorem zeroCells_u8 (n : Nat) : Builtin.zeroCells (Value.int .u8 0).cells n = (List.replicate n (Value.int .u8 0)).toArray := by
  apply Array.ext'
  simp only [Builtin.zeroCells, Value.cells]
  apply List.ext_getElem
  · simp
  · intro i h1 h2
    simp [Nat.mod_one]

theorem run_zeros_room (w : World) (ty : TypeId) (b sLen sCap n : Nat) (hn : 0 < n) (hs : n ≤ 1048576) (hroom : sLen + n ≤ sCap) (hc : ∀ j, j < n → (w.cell? ⟨b, sLen + j, none⟩).isSome = true) (hf : ∀ j, j < n → w.frozen? ⟨b, sLen + j, none⟩ = false) :
    (Builtin.append_ #[23, 3] ty #[.slice (some ⟨b, 0, none⟩) sLen sCap, .int .i64 n]).run Try.prog w = .ok (.slice (some ⟨b, 0, none⟩) (sLen + n) sCap) (w.setCells b sLen (List.replicate n (.int .u8 0))) := by
  obtain ⟨i0, hi, hz0, hz1, hz2⟩ := info_parts infoByte
  have hst := run_storeCells_cells (P := Try.prog) b sLen (List.replicate n (Value.int .u8 0)) 0 w (by simpa using hc) (by simpa using hf) (fun u hu => by rw [(List.mem_replicate.1 hu).2]; rfl)
  simp only [Nat.add_zero] at hst
  have hw : IntKind.i64.wrap (n : Int) = (n : Int) := by rw [IntKind.wrap_i64]; omega
  have h0 : ¬ ((n : Int) < 0) := by omega
  have h48 : ¬ (281474976710656 < (n : Int)) := by omega
  have hne : ¬ n = 0 := by omega
  simp [Builtin.append_, run_underlying Try.underlying23, run_underlying Try.underlying3, sizeOf, typeInfo, zeroValue, hi, hz0, hz1, hz2, hroom, Addr.add_lit, hst, hw, asInt, asIntOf, zeroCells_u8, hne, h0, h48]
theorem run_zeros_grow (w : World) (ty : TypeId) (base : Option Addr) (sLen sCap n : Nat) (olds : List Value) (hn : 0 < n) (hs : sLen + n ≤ 1048576)
    (hold : (Builtin.firstCells 1 sLen (.slice base sLen sCap)).run Try.prog w.drew = .ok olds.toArray w.drew) (hg : sCap < sLen + n) :
    (Builtin.append_ #[23, 3] ty #[.slice base sLen sCap, .int .i64 n]).run Try.prog w =
      .ok (.slice (some ⟨w.heap.size, 0, none⟩) (sLen + n) (grownCap w (sLen + n) sCap 5)) (w.drew.alloc (.cells ((olds ++ List.replicate n (Value.int .u8 0)).toArray ++ Builtin.zeroCells (Value.int .u8 0).cells (grownCap w (sLen + n) sCap 5 - (sLen + n))) 5)) := by
  obtain ⟨i0, hi, hz0, hz1, hz2⟩ := info_parts infoByte
  have hw : IntKind.i64.wrap (n : Int) = (n : Int) := by rw [IntKind.wrap_i64]; omega
  have hne : ¬ n = 0 := by omega
  have h0 : ¬ ((n : Int) < 0) := by omega
  have h48 : ¬ (281474976710656 < (n : Int)) := by omega
  have hn' : ¬ (sLen + n ≤ sCap) := by omega
  have h63' : ¬ (9223372036854775807 < ((sLen : Int) + (n : Int))) := by omega
  have hfit : Builtin.nextslicecap (sLen + n) sCap * 1 ≤ 281474976710656 := growslice_fits (by omega) (by omega)
  have h48' : ¬ (281474976710656 < Builtin.nextslicecap (sLen + n) sCap) := by omega
  simp [Builtin.append_, run_underlying Try.underlying23, run_underlying Try.underlying3, sizeOf, typeInfo, zeroValue, hi, hz0, hz1, hz2, hn', h63', h48', Question.forced, hold, newRow, grownCap, hw, asInt, asIntOf, zeroCells_u8, hne, h0, h48]
  congr 2
  apply Array.ext'
  simp [List.append_assoc, List.replicate_append_replicate]

/-- 'append(b, make([]byte, n)...)' onto bytes of one's own -/
theorem run_append_zeros (w : World) (base n : Nat) (v : Value) (xs : List UInt8) (ty : TypeId) (hown : w.ownsRow base 5 1 v xs.length (u8s xs)) (hb : xs.length + n ≤ 1048576) (hn : 0 < n) (hbase : base ≤ w.heap.size) :
    ∃ g' cap' w', (Builtin.append_ #[23, 3] ty #[v, .int .i64 n]).run Try.prog w = .ok (.slice (some ⟨g', 0, none⟩) (xs ++ zeros n).length cap') w' ∧
      w'.ownsRow base 5 1 (.slice (some ⟨g', 0, none⟩) (xs ++ zeros n).length cap') (xs ++ zeros n).length (u8s (xs ++ zeros n)) ∧ Below base w w' := by
  obtain ⟨i0, hi, hz0, hz1, hz2⟩ := info_parts infoByte
  have hlen : (xs ++ zeros n).length = xs.length + n := by simp [zeros]
  have hu : u8s (xs ++ zeros n) = u8s xs ++ List.replicate n (Value.int .u8 0) := by simp [u8s, zeros]
  have hrl : (List.replicate n (Value.int .u8 0)).length = n := List.length_replicate
  have hgrow : ∀ (A : Option Addr) (cap : Nat), (Builtin.firstCells 1 xs.length (.slice A xs.length cap)).run Try.prog w.drew = .ok (u8s xs).toArray w.drew → cap < xs.length + n →
      ∃ g' cap' w', (Builtin.append_ #[23, 3] ty #[.slice A xs.length cap, .int .i64 n]).run Try.prog w = .ok (.slice (some ⟨g', 0, none⟩) (xs ++ zeros n).length cap') w' ∧
      w'.ownsRow base 5 1 (.slice (some ⟨g', 0, none⟩) (xs ++ zeros n).length cap') (xs ++ zeros n).length (u8s (xs ++ zeros n)) ∧ Below base w w' := fun A cap hold hg => by
    have hr := run_zeros_grow w ty A xs.length cap n (u8s xs) hn hb hold hg
    refine ⟨w.heap.size, _, _, by rw [hlen]; exact hr, ?_, (show Below base w w.drew from ⟨rfl, rfl, rfl, Nat.le_refl _, fun _ _ => rfl⟩).alloc hbase _⟩
    have hge := grownCap_ge w (xs.length + n) cap 5
    refine ⟨by rw [u8s_length, Nat.mul_one], .inr ⟨w.heap.size, _, _, rfl, hbase, heap_alloc_new w.drew _, by rw [hlen]; exact hge, grownCap_le_maxLen w _ cap _ (by simp only [maxLen]; omega), ?_, ?_⟩⟩
    · simp only [Array.size_append, List.size_toArray, List.length_append, size_zeroCells, u8s_length, Value.cells, hrl]
      simp
      omega
    · rw [hu]
      simp only [Array.toList_append]
      exact List.take_left' (by simp [u8s_length, zeros])
  rcases hown.2 with ⟨rfl, h0⟩ | ⟨g, cap, cur, rfl, hg, hh, hc, hm, hcs, hx⟩
  · obtain rfl : xs = [] := List.eq_nil_of_length_eq_zero h0
    exact hgrow none 0 (run_firstCells_none w.drew 1 0 0 0) (by simp; omega)
  · by_cases hroom : xs.length + n ≤ cap
    · have hr := run_zeros_room w ty g xs.length cap n hn (by omega) hroom
        (fun j hj => by
          rw [cell_of_row w g _ cur _ (0, 0) hh, Array.getElem?_eq_getElem (by rw [hcs]; omega)]; rfl)
        (fun j _ => frozen_of_block hh _)
      refine ⟨g, cap, _, by rw [hlen]; exact hr, ?_, below_cells (Below.refl _ _) hg _ _⟩
      refine ⟨by rw [u8s_length, Nat.mul_one], .inr ⟨g, cap, _, rfl, hg, heap_setCells (List.replicate n (Value.int .u8 0)) _ w cur hh, by omega, hm, by rw [setL_size]; exact hcs, ?_⟩⟩
      rw [setL_list _ _ _ (by rw [hrl, hcs]; omega), hu, hrl]
      have hcl : cur.toList.length = cap * 1 := by rw [Array.length_toList, hcs]
      rw [List.append_assoc, hlen, Nat.mul_one]
      rw [Nat.mul_one] at hx
      rw [hx, ← List.append_assoc]
      exact List.take_left' (by rw [List.length_append, u8s_length, hrl])
    · exact hgrow _ cap (run_firstCells_some w.drew 1 xs.length ⟨g, 0, none⟩ xs.length cap (u8s xs) (by rw [u8s_length, Nat.mul_one]) (fun j u hju => hown.cells (g := g) rfl j u hju)) (by omega)

/-- bytes in new memory; their row may be longer than they are -/
def OwnB (base : Nat) (v : Value) (l : List UInt8) (w : World) : Prop :=
  (v = .slice none 0 0 ∧ l = []) ∨ ∃ g c cur, v = .slice (some ⟨g, 0, none⟩) l.length c ∧ base ≤ g ∧ w.heap[g]? = some (.cells cur 5 (0, 0)) ∧ l.length ≤ c ∧ c ≤ cur.size ∧ c ≤ maxLen ∧ cur.toList.take l.length = u8s l
theorem OwnB.of_row {base : Nat} {v : Value} {l : List UInt8} {w : World} (h : w.ownsRow base 5 1 v l.length (u8s l)) : OwnB base v l w := by
  rcases h.2 with ⟨rfl, h0⟩ | ⟨g, cap, cur, rfl, hg, hh, hc, hm, hcs, hx⟩
  · exact .inl ⟨rfl, List.eq_nil_of_length_eq_zero h0⟩
  · exact .inr ⟨g, cap, cur, rfl, hg, hh, hc, by omega, hm, by simpa using hx⟩
theorem OwnB.below {base : Nat} {v : Value} {l : List UInt8} {w w' : World} (h : OwnB base v l w) (hb : Below w.heap.size w w') : OwnB base v l w' := by
  rcases h with h | ⟨g, c, cur, h1, h2, h3, h4⟩
  · exact .inl h
  · exact .inr ⟨g, c, cur, h1, h2, (hb.block g (Array.getElem?_eq_some_iff.1 h3).1).trans h3, h4⟩
theorem OwnB.mono {base base' : Nat} {v : Value} {l : List UInt8} {w : World} (h : OwnB base v l w) (hb : base' ≤ base) : OwnB base' v l w := by
  rcases h with h | ⟨g, c, cur, h1, h2, h3, h4⟩
  · exact .inl h
  · exact .inr ⟨g, c, cur, h1, Nat.le_trans hb h2, h3, h4⟩
theorem OwnB.reads {base : Nat} {v : Value} {l : List UInt8} {w : World} (h : OwnB base v l w) : ReadsB w v l := by
  rcases h with h | ⟨g, c, cur, rfl, h2, h3, h4, h5, h6, h7⟩
  · exact .inl h
  · refine .inr ⟨⟨g, 0, none⟩, c, rfl, fun j u hu => ?_⟩
    rw [Addr.add_lit, Nat.zero_add, cell_of_row w g j cur _ (0, 0) h3, ← Array.getElem?_toList]
    rw [← h7, List.getElem?_take] at hu
    split at hu
    · exact hu
    · cases hu
/-- 'b[:n:n]' -/
theorem OwnB.cut {base : Nat} {l : List UInt8} {w : World} {g c : Nat} (h : OwnB base (.slice (some ⟨g, 0, none⟩) l.length c) l w) (n : Nat) (hn : n ≤ l.length) : OwnB base (.slice (some ⟨g, 0, none⟩) n n) (l.take n) w := by
  rcases h with ⟨h, _⟩ | ⟨g', c', cur, h1, h2, h3, h4, h5, h6, h7⟩
  · cases h
  · cases h1
    have e : (l.take n).length = n := by rw [List.length_take]; omega
    refine .inr ⟨g, n, cur, by rw [e], h2, h3, by omega, by omega, by omega, ?_⟩
    rw [e]
    have := congrArg (List.take n) h7
    rw [List.take_take, show min n l.length = n by omega] at this
    rw [this]; simp [u8s]

def sizedL (b : List UInt8) (n : Nat) : List UInt8 := if n ≤ b.length then b.take n else b ++ zeros (n - b.length)
theorem sizedL_len (b : List UInt8) (n : Nat) : (sizedL b n).length = n := by
  unfold sizedL
  split
  · rw [List.length_take]; omega
  · simp [zeros]; omega
end Go.Proofs.Ytbbbdhpihcbmmaa
namespace Go.Proofs.Ytbbbdhpihcbmmaa
open Go.RowKit Own

/-- an append, a copy that the walk leaves as they stand: their runs are hypotheses -/
def appendH : Array TypeId → TypeId → Array Value → Sem Value := Builtin.append_
theorem hide_append (ts : Array TypeId) (t : TypeId) (args : Array Value) : Builtin.append_ ts t args = appendH ts t args := rfl
def copyH : Array TypeId → TypeId → Array Value → Sem Value := Builtin.copy_
theorem hide_copy (ts : Array TypeId) (t : TypeId) (args : Array Value) : Builtin.copy_ ts t args = copyH ts t args := rfl
attribute [local go_sem ↓] hide_append hide_copy

/-- slices.Clone, each way -/
theorem clone_ways (v : Value) (l : List UInt8) (w : World) (hv : ReadsB w v l) (hl : l.length ≤ 140737488351232) :
    (v = .slice none 0 0 ∧ l = [] ∧ Calls Try.prog 19 #[.slice none 0 0] w fun e w' => e = .returned (.slice none 0 0) ∧ Below w.heap.size w w') ∨
    ∃ a c, v = .slice (some a) l.length c ∧ Calls Try.prog 19 #[.slice (some a) l.length c] w fun e w' => ∃ g cap, e = .returned (.slice (some ⟨g, 0, none⟩) l.length cap) ∧ l.length ≤ cap ∧ w'.ownsRow w.heap.size 5 1 (.slice (some ⟨g, 0, none⟩) l.length cap) l.length (u8s l) ∧ Below w.heap.size w w' := by
  have hC := clone_any v l w hv hl
  rcases hv with ⟨rfl, rfl⟩ | ⟨a, c, rfl, _⟩
  · refine .inl ⟨rfl, rfl, hC.mono ?_⟩
    rintro e w' ⟨v', rfl, _, hb, hn⟩
    obtain rfl := hn.2 rfl
    exact ⟨rfl, hb⟩
  · refine .inr ⟨a, c, rfl, hC.mono ?_⟩
    rintro e w' ⟨v', rfl, ho, hb, hn⟩
    rcases ho.2 with ⟨rfl, _⟩ | ⟨g, cap, cur, rfl, _, _, hc, _⟩
    · have := hn.1 rfl; cases this
    · exact ⟨g, cap, rfl, hc, ho, hb⟩

def SizedPost (l : List UInt8) (w : World) (e : Ending) (w' : World) : Prop := ∃ v', e = .returned v' ∧ OwnB w.heap.size v' l w' ∧ Below w.heap.size w w'
set_option maxHeartbeats 1000000 in
theorem sized_any (v : Value) (l : List UInt8) (n : Nat) (w : World) (hv : ReadsB w v l) (hl : l.length ≤ 16384) (hn : n ≤ 16384) :
    Calls Try.prog 22 #[v, .int .i64 n] w (SizedPost (sizedL l n) w) := by
  have hap : Hid (∀ w1 v1, w1.ownsRow w.heap.size 5 1 v1 l.length (u8s l) → w.heap.size ≤ w1.heap.size → ¬ n ≤ l.length → ∃ g' cap' w', (appendH #[23, 3] 23 #[v1, .int .i64 ((n - l.length : Nat) : Int)]).run Try.prog w1 = .ok (.slice (some ⟨g', 0, none⟩) n cap') w' ∧
      OwnB w.heap.size (.slice (some ⟨g', 0, none⟩) n cap') (sizedL l n) w' ∧ Below w.heap.size w1 w') := fun w1 v1 ho hb hlt => by
    have hlen : (l ++ zeros (n - l.length)).length = n := by simp [zeros]; omega
    obtain ⟨g', cap', w', h1, h2, h3⟩ := run_append_zeros w1 w.heap.size (n - l.length) v1 l 23 ho (by omega) (by omega) hb
    have h4 := OwnB.of_row h2
    rw [hlen] at h1 h4
    refine ⟨g', cap', w', h1, ?_, h3⟩
    unfold sizedL
    rw [if_neg hlt]
    exact h4
  rcases clone_ways v l w hv (by omega) with ⟨rfl, rfl, hC⟩ | ⟨a, c, rfl, hC⟩
  · by_cases hle : n ≤ 0
    · obtain rfl : n = 0 := by omega
      clear hv hl hn hap
      go_enter Try.func22, Try.ntmps22
      go_wp2_with (go_at_call 19; refine hC.mono ?_; rintro e w1 ⟨rfl, hb⟩)
      go_ret
      exact ⟨_, rfl, .inl ⟨rfl, rfl⟩, hb⟩
    · have h1 : ¬ (n : Int) ≤ 0 := by omega
      have hwr : IntKind.i64.wrap (n : Int) = (n : Int) := by rw [IntKind.wrap_i64]; omega
      have HAP : Hid (∀ w1, Below w.heap.size w w1 → ∃ g' cap' w', (appendH #[23, 3] 23 #[.slice none 0 0, .int .i64 (n : Int)]).run Try.prog w1 = .ok (.slice (some ⟨g', 0, none⟩) n cap') w' ∧ OwnB w.heap.size (.slice (some ⟨g', 0, none⟩) n cap') (sizedL [] n) w' ∧ Below w.heap.size w1 w') := fun w1 hb => hap.out w1 (.slice none 0 0) (World.ownsRow_nil _ _ _ _) hb.size hle
      clear hv hl hn hap hle
      go_enter Try.func22, Try.ntmps22
      go_wp2_with (go_at_call 19; refine hC.mono ?_; rintro e w1 ⟨rfl, hb⟩; obtain ⟨g', cap', w2, hr, ho2, hb2⟩ := HAP.out _ hb; have HO2 := Lib.hid ho2; have HB := Lib.hid (hb.trans hb2); clear hb hb2 ho2 HAP)
      go_ret
      exact ⟨_, rfl, HO2.out, HB.out⟩
  · by_cases hle : n ≤ l.length
    · have h1 : (n : Int) ≤ (l.length : Int) := by omega
      have HS : Hid (sizedL l n = l.take n) := by show _ = _; unfold sizedL; rw [if_pos hle]
      have HL : Hid (n ≤ l.length) := hle
      clear hv hl hn hap hle
      go_enter Try.func22, Try.ntmps22
      go_wp2_with (go_at_call 19; refine hC.mono ?_; rintro e w1 ⟨g, cap, rfl, hcap, ho, hb⟩; have HO := Lib.hid (OwnB.cut (OwnB.of_row ho) n HL.out); have h2 : (n : Int) ≤ (cap : Int) := (by have := HL.out; omega); have h3 : n ≤ cap := (by have := HL.out; omega); have HB := Lib.hid hb; clear ho hb hC)
      go_ret
      exact ⟨_, rfl, by rw [HS.out]; exact HO.out, HB.out⟩
    · have h1 : ¬ (n : Int) ≤ (l.length : Int) := by omega
      have hwr : IntKind.i64.wrap ((n : Int) - (l.length : Int)) = ((n - l.length : Nat) : Int) := by rw [IntKind.wrap_i64]; omega
      have HL : Hid (¬ n ≤ l.length) := hle
      clear hv hl hn hle
      go_enter Try.func22, Try.ntmps22
      go_wp2_with (go_at_call 19; refine hC.mono ?_; rintro e w1 ⟨g, cap, rfl, hcap, ho, hb⟩; obtain ⟨g', cap', w2, hr, ho2, hb2⟩ := hap.out _ _ ho hb.size HL.out; have HO2 := Lib.hid ho2; have HB := Lib.hid (hb.trans hb2); clear hb hb2 ho ho2 hap hC)
      go_ret
      exact ⟨_, rfl, HO2.out, HB.out⟩

def writtenL (b : List UInt8) (a : Nat) (d : List UInt8) : List UInt8 := let o := sizedL b (max b.length (a + d.length)); o.take a ++ d ++ o.drop (a + d.length)
theorem writtenL_len (b : List UInt8) (a : Nat) (d : List UInt8) : (writtenL b a d).length = max b.length (a + d.length) := by
  have h := sizedL_len b (max b.length (a + d.length))
  unfold writtenL
  simp only [List.length_append, List.length_take, List.length_drop, h]
  omega
/-- some of the bytes are written over -/
theorem OwnB.lay {base : Nat} {l : List UInt8} {w : World} {g c a : Nat} (h : OwnB base (.slice (some ⟨g, 0, none⟩) l.length c) l w) (d : List UInt8) (hd : a + d.length ≤ l.length) :
    OwnB base (.slice (some ⟨g, 0, none⟩) l.length c) (l.take a ++ d ++ l.drop (a + d.length)) (w.setCells g a (u8s d)) ∧ (∀ j, j < d.length → (w.cell? ⟨g, a + j, none⟩).isSome = true) ∧ (∀ j, j < d.length → w.frozen? ⟨g, a + j, none⟩ = false) ∧ base ≤ g := by
  rcases h with ⟨h, _⟩ | ⟨g', c', cur, h1, h2, h3, h4, h5, h6, h7⟩
  · cases h
  · cases h1
    have e : (l.take a ++ d ++ l.drop (a + d.length)).length = l.length := by simp only [List.length_append, List.length_take, List.length_drop]; omega
    refine ⟨.inr ⟨g, c, setL cur a (u8s d), by rw [e], h2, heap_setCells (u8s d) _ w cur h3, by omega, by rw [setL_size]; exact h5, h6, ?_⟩, fun j hj => ?_, fun j _ => frozen_of_block h3 _, h2⟩
    · rw [e, setL_list _ _ _ (by rw [u8s_length]; omega), u8s_length]
      have hu : u8s (l.take a ++ d ++ l.drop (a + d.length)) = (u8s l).take a ++ u8s d ++ (u8s l).drop (a + d.length) := by simp [u8s]
      rw [hu, ← h7]
      have hcl : cur.toList.length = cur.size := Array.length_toList
      rw [List.take_take, show min a l.length = a by omega, List.append_assoc, List.append_assoc, List.take_append, List.take_append]
      simp only [List.length_take, hcl, u8s_length, List.take_take, List.drop_take]
      congr 1
      · congr 1; omega
      · congr 1
        · exact List.take_of_length_le (by rw [u8s_length]; omega)
        · congr 1; omega
    · rw [cell_of_row w g _ cur _ (0, 0) h3, Array.getElem?_eq_getElem (by omega)]; rfl

def WrittenPost (r : Option (List UInt8)) (w : World) (e : Ending) (w' : World) : Prop :=
  match r with
  | none => e = .returned (.tuple #[.slice none 0 0, .bool false]) ∧ Below w.heap.size w w'
  | some l => ∃ v', e = .returned (.tuple #[v', .bool true]) ∧ OwnB w.heap.size v' l w' ∧ Below w.heap.size w w'
def writtenR (b : List UInt8) (a : Nat) (d : List UInt8) : Option (List UInt8) := if 4096 < a + d.length then none else some (if d.length = 0 then b else writtenL b a d)
set_option maxHeartbeats 1000000 in
theorem written_any (v u : Value) (b d : List UInt8) (a : Nat) (w : World) (hv : ReadsB w v b) (hu : ReadsB w u d) (hb : b.length ≤ 4096) (hd : d.length ≤ 4096) (ha : a ≤ 9223372036854775807) :
    Calls Try.prog 21 #[v, .int .i64 a, u] w (WrittenPost (writtenR b a d) w) := by
  have hw1 : IntKind.i64.wrap (4096 - (d.length : Int)) = 4096 - (d.length : Int) := by rw [IntKind.wrap_i64]; omega
  obtain ⟨Au, cu, hue⟩ := hu.slice
  by_cases h1 : 4096 < a + d.length
  · have hc1 : 4096 - (d.length : Int) < (a : Int) := by omega
    have HR : Hid (writtenR b a d = none) := by show _ = _; unfold writtenR; rw [if_pos h1]
    obtain ⟨Av, cv, rfl⟩ := hv.slice
    subst hue
    clear hv hu hb hd ha h1
    go_enter Try.func21, Try.ntmps21
    go_wp2_with fail
    go_ret2
    unfold WrittenPost
    rw [HR.out]
    exact ⟨rfl, Below.refl _ _⟩
  · have hc1 : ¬ 4096 - (d.length : Int) < (a : Int) := by omega
    by_cases h2 : d.length = 0
    · have hq : ((d.length : Int) == 0) = true := by rw [h2]; rfl
      have HR : Hid (writtenR b a d = some b) := by show _ = _; unfold writtenR; rw [if_neg h1, if_pos h2]
      have hC := clone_any v b w hv (by omega)
      obtain ⟨Av, cv, rfl⟩ := hv.slice
      subst hue
      clear hv hu hb hd ha h1 h2
      go_enter Try.func21, Try.ntmps21
      go_wp2_with (go_at_call 19; refine hC.mono ?_; rintro e w1 ⟨v1, rfl, ho, hb, _⟩)
      go_ret2
      unfold WrittenPost
      rw [HR.out]
      exact ⟨v1, rfl, OwnB.of_row ho, hb⟩
    · have hq : ((d.length : Int) == 0) = false := beq_eq_false_iff_ne.2 (by omega)
      have HR : Hid (writtenR b a d = some (writtenL b a d)) := by show _ = _; unfold writtenR; rw [if_neg h1, if_neg h2]
      have hS := sized_any v b (max b.length (a + d.length)) w hv (by omega) (by omega)
      have hmx : max (b.length : Int) ((a : Int) + (d.length : Int)) = ((max b.length (a + d.length) : Nat) : Int) := by omega
      have hw2 : IntKind.i64.wrap ((a : Int) + (d.length : Int)) = (a : Int) + (d.length : Int) := by rw [IntKind.wrap_i64]; omega
      obtain ⟨Av, cv, rfl⟩ := hv.slice
      have hsl := sizedL_len b (max b.length (a + d.length))
      have HW : Hid (writtenL b a d = (sizedL b (max b.length (a + d.length))).take a ++ d ++ (sizedL b (max b.length (a + d.length))).drop (a + d.length)) := rfl
      have hle : a + d.length ≤ max b.length (a + d.length) := by omega
      generalize sizedL b (max b.length (a + d.length)) = o at *
      generalize max b.length (a + d.length) = N at *
      have hcp : Hid (∀ w1 v1, OwnB w.heap.size v1 o w1 → Below w.heap.size w w1 → ∃ g c, v1 = .slice (some ⟨g, 0, none⟩) N c ∧ N ≤ c ∧ (copyH #[23, 23] 3 #[.slice (some ⟨g, a, none⟩) (N - a) (c - a), u]).run Try.prog w1 = .ok (.int .i64 d.length) (w1.setCells g a (u8s d)) ∧ OwnB w.heap.size (.slice (some ⟨g, 0, none⟩) N c) (writtenL b a d) (w1.setCells g a (u8s d)) ∧ Below w.heap.size w (w1.setCells g a (u8s d))) := fun w1 v1 ho hb1 => by
        have hu1 := hu.below hb1
        rcases ho with ⟨_, h0⟩ | ⟨g, c, cur, rfl, r⟩
        · rw [h0] at hsl; simp at hsl; omega
        · obtain ⟨q1, q2, q3, q4⟩ := OwnB.lay (.inr ⟨g, c, cur, rfl, r⟩) d (a := a) (by omega)
          rcases hu1 with ⟨_, h0⟩ | ⟨x, cx, hx, hcells⟩
          · rw [h0] at h2; simp at h2
          · subst hx
            have hr := run_copy_cells (P := Try.prog) w1 23 23 3 5 g a (N - a) (c - a) x d.length cx (u8s d) Try.underlying23 (by kernel_rfl) (by rw [u8s_length]; show _ = min _ _; omega) hcells (by rw [u8s_length]; exact q2) (by rw [u8s_length]; exact q3) (u8s_one d)
            rw [u8s_length] at hr
            refine ⟨g, c, by rw [hsl], by have := r.2.2.1; omega, hr, ?_, below_cells hb1 q4 _ _⟩
            rw [HW.out, ← hsl]
            exact q1
      subst hue
      have HN : Hid (a < N ∧ a ≤ N) := ⟨by omega, by omega⟩
      have hsplit : ((b.length : Int) < (a : Int) + (d.length : Int) ∧ (N : Int) = (a : Int) + (d.length : Int)) ∨ (¬ (b.length : Int) < (a : Int) + (d.length : Int) ∧ (N : Int) = (b.length : Int)) := by omega
      clear hv hu hb hd ha h1 h2 hsl hle hmx
      rcases hsplit with ⟨hlt, hN⟩ | ⟨hlt, hN⟩
      all_goals
        rw [hN] at hS
        clear hN
        go_enter Try.func21, Try.ntmps21
        go_wp2_with (go_at_call 22; refine hS.mono ?_; rintro e w1 ⟨v1, rfl, ho, hb⟩; obtain ⟨g, c, rfl, hc, hr, ho2, hb2⟩ := hcp.out _ _ ho hb; have HO2 := Lib.hid ho2; have HB := Lib.hid hb2; have k1 : a ≤ N := HN.out.2; have k2 : a ≤ c := (by omega); have k3 : ¬ c = a := (by have := HN.out.1; omega); have k4 : (a : Int) ≤ (N : Int) := (by omega); have k5 : (a : Int) ≤ (c : Int) := (by omega); have k6 : (0 : Int) ≤ (a : Int) := (by omega); have k7 : (N : Int) ≤ (c : Int) := (by omega); clear ho hb ho2 hb2 hcp hS)
        go_ret2
        unfold WrittenPost
        rw [HR.out]
        exact ⟨_, rfl, HO2.out, HB.out⟩
end Go.Proofs.Ytbbbdhpihcbmmaa
