/- The walk of PipeLess: a right history. -/
import Derived.Test.YtbbbdhpihcbmmaaPLess2
import Derived.Deep.CutBlock
namespace Go.Proofs.Ytbbbdhpihcbmmaa
open Go.RowKit Own

def sliceH : TypeId → Value → Option Value → Option Value → Option Value → Sem Value := Instr.slice
theorem hide_slice (t : TypeId) (v : Value) (lo hi mx : Option Value) : Instr.slice t v lo hi mx = sliceH t v lo hi mx := rfl
theorem sizeEv (w : World) : (sizeOf 44).run Try.prog w = .ok 12 w := by kernel_rfl
theorem evs_own' {W : World} {B n c : Nat} {A : Option Addr} {L : List EvV} (h : W.ownsRow B 44 12 (.slice A n c) n (cellsEv L)) (hl : L.length = n) (hr : ∀ p ∈ L, EvReads W p) : ReadsEvs W (.slice A n c) (L.map Prod.fst) := by
  subst hl
  rcases h.2 with ⟨h1, h2⟩ | ⟨g, cap, cur, h1, _⟩
  · have : L = [] := List.length_eq_zero_iff.1 h2
    exact .inl ⟨h1, by rw [this]; rfl⟩
  · cases h1
    exact evs_own h hr
theorem EvReads.go {w w' : World} {p : EvV} (h : EvReads w p) (hb : Below w.heap.size w w') : EvReads w' p := ⟨h.1.below hb, h.2.below hb⟩
/-- 'l[:i]', 'l[i+1:]' -/
theorem slice_lo (bb off N cv i : Nat) (hi : i < N) (hcv : N ≤ cv) (W : World) : (sliceH 34 (.slice (some ⟨bb, off, none⟩) N cv) none (some (.int .i64 (i : Int))) none).run Try.prog W = .ok (.slice (some ⟨bb, off, none⟩) i cv) W := by
  have ht : Try.prog.underlying 34 = some (.slice (Try.prog.elem 34)) := by kernel_rfl
  have he : Try.prog.elem 34 = 44 := by kernel_rfl
  rw [← hide_slice, run_slice_h W _ _ _ _ ht .i64 _ (by omega) (by omega), he, sizeEv]
  have h0 : ¬ cv = 0 := by omega
  simp [Result.andThen, sliced, Addr.add, h0]
theorem slice_hi (bb off N cv i : Nat) (hi : i < N) (hcv : N ≤ cv) : ∃ A2 : Addr, (∀ W, (sliceH 34 (.slice (some ⟨bb, off, none⟩) N cv) (some (.int .i64 ((i : Int) + 1))) none none).run Try.prog W = .ok (.slice (some A2) (N - (i + 1)) (cv - (i + 1))) W) ∧ (i + 1 < N → A2 = ⟨bb, off + (i + 1) * 12, none⟩) := by
  have ht : Try.prog.underlying 34 = some (.slice (Try.prog.elem 34)) := by kernel_rfl
  have he : Try.prog.elem 34 = 44 := by kernel_rfl
  refine ⟨if cv = i + 1 then ⟨bb, off, none⟩ else ⟨bb, off + (i + 1) * 12, none⟩, fun W => ?_, fun h => if_neg (by omega)⟩
  rw [← hide_slice, run_slice_l W _ _ _ _ ht .i64 _ (by omega) (by omega), he, sizeEv]
  have ht : ((i : Int) + 1).toNat = i + 1 := by omega
  simp only [Result.andThen, sliced, ht, Option.map_some, Addr.add_lit]
  split <;> rfl
attribute [local go_sem ↓] hide_append hide_slice
/-- what is laid ahead of the walk -/
theorem pless_out (w : World) (bb off N cv i : Nat) (L : List EvV) (hl : L.length = N) (hi : i < N) (h64 : N ≤ 64) (hcells : ∀ j u, (cellsEv L)[j]? = some u → w.cell? ⟨bb, off + j, none⟩ = some u) (hrd : ∀ p ∈ L, EvReads w p) (A2 : Addr) (hA2 : i + 1 < N → A2 = ⟨bb, off + (i + 1) * 12, none⟩) (W : World) (hb : Below w.heap.size w W) :
    ∃ A3 c3 W3 A4 K c4 W4, (appendH #[34, 34] 34 #[.slice (some ⟨W.heap.size, 0, none⟩) 0 0, .slice (some ⟨bb, off, none⟩) i cv]).run Try.prog (W.alloc (.cells #[] 44)).drew = .ok (.slice A3 i c3) W3 ∧
      (appendH #[34, 34] 34 #[.slice A3 i c3, .slice (some A2) (N - (i + 1)) (cv - (i + 1))]).run Try.prog W3 = .ok (.slice A4 K c4) W4 ∧
      ReadsEvs W4 (.slice A4 K c4) ((L.map Prod.fst).take i ++ (L.map Prod.fst).drop (i + 1)) ∧ Below w.heap.size w W4 := by
  have hal : Below W.heap.size W (W.alloc (.cells #[] 44)).drew := ((Below.refl _ _).alloc (Nat.le_refl _) _).drew
  have hb0 := hb.trans (hal.mono hb.size)
  have lt : (L.take i).length = i := by rw [List.length_take]; omega
  have ld : (L.drop (i + 1)).length = N - (i + 1) := by rw [List.length_drop, hl]
  obtain ⟨A3, c3, W3, hr3, hown3, hb3⟩ := app_evs (W.alloc (.cells #[] 44)).drew W.heap.size 0 0 (some ⟨W.heap.size, 0, none⟩) [] (L.take i) (made_evs W).drew ⟨bb, off, none⟩ cv (fun j u hu => by
      have := hcells j u (cellsEv_take L i j u hu)
      rw [Addr.add_lit]
      exact (hb0.cell (p := ⟨bb, off + j, none⟩) (World.block_lt_of_cell? w _ this)).trans this) (fun p hp => (hrd p (List.mem_of_mem_take hp)).go hb0) (by omega) (by omega) hal.size
  rw [lt, Nat.zero_add] at hr3 hown3
  rw [List.nil_append] at hown3
  have hb3' : Below w.heap.size w W3 := hb0.trans (hb3.mono hb.size)
  obtain ⟨A4, c4, W4, hr4, hown4, hb4⟩ := app_evs W3 W.heap.size i c3 A3 (L.take i) (L.drop (i + 1)) hown3 A2 (cv - (i + 1)) (fun j u hu => by
      have hlt := (List.getElem?_eq_some_iff.1 hu).1
      rw [cellsEv_len, ld] at hlt
      have hi1 : i + 1 < N := by omega
      rw [cellsEv_drop L (i + 1) (by omega)] at hu
      have := hcells _ u hu
      rw [hA2 hi1, Addr.add_lit, Nat.add_assoc]
      exact (hb3'.cell (p := ⟨bb, off + ((i + 1) * 12 + j), none⟩) (World.block_lt_of_cell? w _ this)).trans this) (fun p hp => (hrd p (List.mem_of_mem_drop hp)).go hb3') (by omega) (by omega) (Nat.le_trans hal.size hb3.size)
  rw [ld] at hr4 hown4
  have hb4' : Below w.heap.size w W4 := hb3'.trans (hb4.mono hb.size)
  refine ⟨A3, c3, W3, A4, i + (N - (i + 1)), c4, W4, hr3, hr4, ?_, hb4'⟩
  have := evs_own' hown4 (by rw [List.length_append, lt, ld]) (fun p hp => (hrd p (by
    rcases List.mem_append.1 hp with hp | hp
    · exact List.mem_of_mem_take hp
    · exact List.mem_of_mem_drop hp)).go hb4')
  rw [List.map_append, List.map_take, List.map_drop] at this
  exact this
theorem pless_copy (w : World) (bb off N cv : Nat) (L : List EvV) (hl : L.length = N) (hN : 0 < N) (h64 : N ≤ 64) (hcells : ∀ j u, (cellsEv L)[j]? = some u → w.cell? ⟨bb, off + j, none⟩ = some u) (hrd : ∀ p ∈ L, EvReads w p) (W : World) (hb : Below w.heap.size w W) :
    ∃ g cap W6, (appendH #[34, 34] 34 #[.slice (some ⟨W.heap.size, 0, none⟩) 0 0, .slice (some ⟨bb, off, none⟩) N cv]).run Try.prog (W.alloc (.cells #[] 44)) = .ok (.slice (some ⟨g, 0, none⟩) N cap) W6 ∧
      W6.ownsRow W.heap.size 44 12 (.slice (some ⟨g, 0, none⟩) N cap) N (cellsEv L) ∧ Below w.heap.size w W6 := by
  have hal : Below W.heap.size W (W.alloc (.cells #[] 44)) := (Below.refl _ _).alloc (Nat.le_refl _) _
  have hb0 := hb.trans (hal.mono hb.size)
  obtain ⟨A3, c3, W3, hr3, hown3, hb3⟩ := app_evs (W.alloc (.cells #[] 44)) W.heap.size 0 0 (some ⟨W.heap.size, 0, none⟩) [] L (made_evs W) ⟨bb, off, none⟩ cv (fun j u hu => by
      have := hcells j u hu
      rw [Addr.add_lit]
      exact (hb0.cell (p := ⟨bb, off + j, none⟩) (World.block_lt_of_cell? w _ this)).trans this) (fun p hp => (hrd p hp).go hb0) (by omega) (by omega) hal.size
  rw [hl, Nat.zero_add] at hr3 hown3
  rw [List.nil_append] at hown3
  have hb3' : Below w.heap.size w W3 := hb0.trans (hb3.mono hb.size)
  rcases hown3.2 with ⟨_, h0⟩ | ⟨g, cap, cur, hv, _⟩
  · omega
  · cases hv
    exact ⟨g, _, W3, hr3, hown3, hb3'⟩
end Go.Proofs.Ytbbbdhpihcbmmaa
