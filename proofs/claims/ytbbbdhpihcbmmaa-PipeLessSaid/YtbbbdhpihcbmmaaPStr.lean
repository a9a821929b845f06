/- '[]byte(s)'. -/
import Derived.Test.YtbbbdhpihcbmmaaPLin1
import Derived.Deep.AppendSrc
import Derived.Laws.IdiomStrings
namespace Go.Proofs.Ytbbbdhpihcbmmaa
open Go.RowKit Own

theorem conv_str (l : List UInt8) (w : World) : ∃ c w', (convert 9 23 (.string ⟨l.toArray⟩)).run Try.prog w = .ok (.slice (some ⟨w.heap.size, 0, none⟩) l.length c) w' ∧ l.length ≤ c ∧ ReadsB w' (.slice (some ⟨w.heap.size, 0, none⟩) l.length c) l ∧ Below w.heap.size w w' ∧ (∀ j, j < l.length → w'.frozen? ⟨w.heap.size, j, none⟩ = false) := by
  have hc : l.length ≤ grownCap w l.length 0 5 := grownCap_ge _ _ _ _
  have hr := run_bytes_of_string (P := Try.prog) w 9 23 5 ⟨l.toArray⟩ Try.underlying9 Try.underlying23 Try.underlying5
  have hsz : (⟨l.toArray⟩ : ByteArray).size = l.length := by simp [ByteArray.size]
  rw [hsz] at hr
  have hsz2 : (bytesRow ⟨l.toArray⟩ (grownCap w l.length 0 5)).size = grownCap w l.length 0 5 := by
    simp only [bytesRow, Array.size_append, Array.size_map, Array.size_replicate, hsz]
    simp
    omega
  have hdr : Below w.heap.size w w.drew := ⟨rfl, rfl, rfl, Nat.le_refl _, fun _ _ => rfl⟩
  obtain ⟨O, hO⟩ : ∃ O, O = Obj.cells (bytesRow ⟨l.toArray⟩ (grownCap w l.length 0 5)) 5 ((bytesRow ⟨l.toArray⟩ (grownCap w l.length 0 5)).size, (bytesRow ⟨l.toArray⟩ (grownCap w l.length 0 5)).size + 1) := ⟨_, rfl⟩
  rw [← hO] at hr
  have hh : (w.drew.alloc O).heap[w.heap.size]? = some (.cells (bytesRow ⟨l.toArray⟩ (grownCap w l.length 0 5)) 5 (grownCap w l.length 0 5, grownCap w l.length 0 5 + 1)) := by
    rw [hO, hsz2]; exact heap_alloc_new w.drew _
  refine ⟨_, _, hr, hc, .inr ⟨⟨w.heap.size, 0, none⟩, _, rfl, fun j u hu => ?_⟩, ?_, fun j hj => ?_⟩
  · have hj : j < l.length := by have := (List.getElem?_eq_some_iff.1 hu).1; rwa [u8s_length] at this
    rw [Addr.add_lit, Nat.zero_add]
    rw [cell_of_row (w.drew.alloc O) w.heap.size j _ _ _ hh, bytesRow_at _ _ j (by simpa using hj), ← hu]
    simp [u8s, List.getElem?_eq_getElem hj]
  · exact hdr.alloc (Nat.le_refl _) _
  · simp only [World.frozen?, hh]
    simp
    omega

theorem bit_or (D q : Nat) (hD : D < 256) (hq : q < 8) : bits .or .u64 (D : Int) (IntKind.u64.wrap (2 ^ q)) = ((D ||| 1 <<< q : Nat) : Int) := by
  have h2 : 2 ^ q < 256 := by
    have : 2 ^ q < 2 ^ 8 := Nat.pow_lt_pow_right (by omega) hq
    omega
  have e : IntKind.u64.wrap (2 ^ q) = ((2 ^ q : Nat) : Int) := by
    have : ((2 : Int) ^ q) = ((2 ^ q : Nat) : Int) := by simp
    rw [this]
    generalize (2 ^ q : Nat) = z at h2
    exact IntWalk.u64_in _ ⟨by omega, by omega⟩
  rw [e, u64_or_nat D (2 ^ q) (by omega) (by omega), Nat.one_shiftLeft]
end Go.Proofs.Ytbbbdhpihcbmmaa
