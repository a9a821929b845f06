/- The walks of the reference's New, Read, Rot, Dump. -/
import Derived.Test.YtjlbamjebidhgaaRef
import Derived.Deep.AppendSrc
import Derived.Laws.IdiomStrings
namespace Go.Proofs.Ytjlbamjebidhgaa
open Go.RowKit Own

/-- '[]byte(s)': new memory, whose bytes may be turned -/
theorem conv_str (l : List UInt8) (w : World) : ∃ c w', (convert 9 23 (strV l)).run Try.prog w = .ok (.slice (some ⟨w.heap.size, 0, none⟩) l.length c) w' ∧ l.length ≤ c ∧ ReadsB w' (.slice (some ⟨w.heap.size, 0, none⟩) l.length c) l ∧ Below w.heap.size w w' ∧ (∀ j, j < l.length → w'.frozen? ⟨w.heap.size, j, none⟩ = false) := by
  have hc : l.length ≤ grownCap w l.length 0 5 := grownCap_ge _ _ _ _
  have hr := run_bytes_of_string (P := Try.prog) w 9 23 5 ⟨l.toArray⟩ Try.underlying9 Try.underlying23 Try.underlying5
  have hsz : (⟨l.toArray⟩ : ByteArray).size = l.length := by simp [ByteArray.size]
  rw [hsz] at hr
  have hsz2 : (bytesRow ⟨l.toArray⟩ (grownCap w l.length 0 5)).size = grownCap w l.length 0 5 := by
    simp only [bytesRow, Array.size_append, Array.size_map, Array.size_replicate, hsz]
    simp
    omega
  have hdr : Below w.heap.size w w.drew := ⟨rfl, rfl, rfl, Nat.le_refl _, fun _ _ => rfl⟩
  obtain ⟨O, hO⟩ : ∃ O, O = Obj.cells (bytesRow ⟨l.toArray⟩ (grownCap w l.length 0 5)) 5 ((bytesRow ⟨l.toArray⟩ (grownCap w l.length 0 5)).size, (bytesRow ⟨l.toArray⟩ (grownCap w l.length 0 5)).size + 1) := ⟨_, rfl⟩
  rw [← hO] at hr
  have hh : (w.drew.alloc O).heap[w.heap.size]? = some (.cells (bytesRow ⟨l.toArray⟩ (grownCap w l.length 0 5)) 5 (grownCap w l.length 0 5, grownCap w l.length 0 5 + 1)) := by
    rw [hO, hsz2]; exact heap_alloc_new w.drew _
  refine ⟨_, _, hr, hc, .inr ⟨⟨w.heap.size, 0, none⟩, _, rfl, fun j u hu => ?_⟩, ?_, fun j hj => ?_⟩
  · have hj : j < l.length := by have := (List.getElem?_eq_some_iff.1 hu).1; rwa [u8s_length] at this
    rw [Addr.add_lit, Nat.zero_add]
    rw [cell_of_row (w.drew.alloc O) w.heap.size j _ _ _ hh, bytesRow_at _ _ j (by simpa using hj), ← hu]
    simp [u8s, List.getElem?_eq_getElem hj]
  · exact hdr.alloc (Nat.le_refl _) _
  · simp only [World.frozen?, hh]
    simp
    omega

/-- 'append(out, s...)' of a string, onto bytes of one's own -/
theorem run_append_str (w : World) (base g cap : Nat) (xs l : List UInt8) (ty : TypeId) (hown : w.ownsRow base 5 1 (.slice (some ⟨g, 0, none⟩) xs.length cap) xs.length (u8s xs)) (hb : xs.length + l.length ≤ 140737488351232) (hbase : base ≤ w.heap.size) :
    ∃ g' cap' w', (Builtin.append_ #[23, 9] ty #[.slice (some ⟨g, 0, none⟩) xs.length cap, strV l]).run Try.prog w = .ok (.slice (some ⟨g', 0, none⟩) (xs ++ l).length cap') w' ∧
      w'.ownsRow base 5 1 (.slice (some ⟨g', 0, none⟩) (xs ++ l).length cap') (xs ++ l).length (u8s (xs ++ l)) ∧ Below base w w' := by
  obtain ⟨i0, hi, hz0, hz1, hz2⟩ := info_parts infoByte
  have hsz : (⟨l.toArray⟩ : ByteArray).size = l.length := by simp [ByteArray.size]
  have hbc : byteCells ⟨l.toArray⟩ = u8s l := by simp [byteCells, u8s]
  have hs : Src Try.prog i0.size 9 (strV l) l.length (u8s l) w := by
    have := Src.ofString (P := Try.prog) w Try.underlying9 ⟨l.toArray⟩
    rw [hsz, hbc] at this
    rw [hz1]; exact this
  have hlen : (xs ++ l).length = xs.length + l.length := List.length_append
  have hu : u8s (xs ++ l) = u8s xs ++ u8s l := by simp [u8s]
  have hx1 := hown.1
  rcases hown.2 with ⟨h0, _⟩ | ⟨g', cap', cur, hv, hg, hh, hc, hm, hcs, hx⟩
  · cases h0
  · cases hv
    by_cases hroom : xs.length + l.length ≤ cap
    · have hr := run_append_room_src (P := Try.prog) w 23 9 ty 5 i0 Try.underlying23 hi g 0 xs.length cap (strV l) l.length (u8s l) hs hroom
        (fun j hj => by
          rw [u8s_length] at hj
          rw [cell_of_row w g _ cur _ (0, 0) hh, Array.getElem?_eq_getElem (by rw [hcs, hz1]; omega)]; rfl)
        (fun j _ => frozen_of_block hh _)
      refine ⟨g, cap, _, by rw [hlen]; exact hr, ?_, below_cells (Below.refl _ _) hg _ _⟩
      refine ⟨by rw [u8s_length, Nat.mul_one], .inr ⟨g, cap, _, rfl, hg, heap_setCells (u8s l) _ w cur hh, by omega, hm, by rw [setL_size]; exact hcs, ?_⟩⟩
      rw [setL_list _ _ _ (by rw [hz1, u8s_length, hcs]; omega), hu, hz1]
      have hcl : cur.toList.length = cap * 1 := by rw [Array.length_toList, hcs]
      rw [Nat.zero_add, Nat.mul_one, List.append_assoc, hlen, Nat.mul_one]
      rw [Nat.mul_one] at hx
      rw [hx, ← List.append_assoc]
      exact List.take_left' (by rw [List.length_append, u8s_length, u8s_length])
    · have hold : (Builtin.firstCells i0.size xs.length (.slice (some ⟨g, 0, none⟩) xs.length cap)).run Try.prog w.drew = .ok (u8s xs).toArray w.drew := by
        rw [hz1]
        exact run_firstCells_some w.drew 1 xs.length ⟨g, 0, none⟩ xs.length cap (u8s xs) (by rw [u8s_length, Nat.mul_one]) (fun j u hju => hown.cells (g := g) rfl j u hju)
      have hr := run_append_grow_src (P := Try.prog) w 23 9 ty 5 i0 (.int .u8 0) Try.underlying23 hi hz0 (some ⟨g, 0, none⟩) xs.length cap (u8s xs) hold (strV l) l.length (u8s l) hs (by omega) (by omega) (growslice_fits (by omega) (by rw [hz2]; omega))
      refine ⟨w.heap.size, _, _, by rw [hlen]; exact hr, ?_, (show Below base w w.drew from ⟨rfl, rfl, rfl, Nat.le_refl _, fun _ _ => rfl⟩).alloc hbase _⟩
      have hge := grownCap_ge w (xs.length + l.length) cap 5
      refine ⟨by rw [u8s_length, Nat.mul_one], .inr ⟨w.heap.size, _, _, rfl, hbase, heap_alloc_new w.drew _, by rw [hlen]; exact hge, grownCap_le_maxLen w _ cap _ (by simp only [maxLen]; omega), ?_, ?_⟩⟩
      · simp only [Array.size_append, List.size_toArray, List.length_append, size_zeroCells, u8s_length, Value.cells]
        simp
        omega
      · rw [hu]
        simp only [Array.toList_append]
        exact List.take_left' (by simp [u8s_length])
end Go.Proofs.Ytjlbamjebidhgaa
