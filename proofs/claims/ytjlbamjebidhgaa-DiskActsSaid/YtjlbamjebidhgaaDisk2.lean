/- The walk of a disk's Write. -/
import Derived.Test.YtjlbamjebidhgaaDisk
namespace Go.Proofs.Ytjlbamjebidhgaa
open Go.RowKit Own

theorem cellsW_snoc (P : List Wr) (m : Wr) : cellsW (P ++ [m]) = cellsW P ++ [.int .i64 m.at_, m.v] := by
  simp [cellsW]
theorem wr_one (a : Int) (A : Option Addr) (n c : Nat) : ∀ u ∈ [Value.int .i64 a, .slice A n c], u.oneCell' = true := fun u hu => by
  simp only [List.mem_cons, List.mem_nil_iff, or_false] at hu
  rcases hu with rfl | rfl <;> rfl

def WritePost (B db : Nat) (sv pv : Value) (S : List UInt8) (P : List Wr) (k : Nat) (l : List UInt8) (w : World) (e : Ending) (w' : World) : Prop :=
  ∃ pv' v, e = .returned (.int .i64 0) ∧ DiskAt B db sv pv' S (P ++ [⟨k, l, v⟩]) w' ∧ Chg (db :: pv.ownBlock.toList) w w' ∧ w'.ownsRow w.heap.size 5 1 v l.length (u8s l) ∧ ∀ g, pv'.ownBlock = some g → pv.ownBlock = some g ∨ w.heap.size ≤ g

theorem write_close {B db k : Nat} {S : List UInt8} {P : List Wr} {l : List UInt8} {w w2 w3 : World} {sv pv v' pv3 : Value} (hf : DiskAt B db sv pv S P w) (hl : l.length = 64) (hk : k * 64 + 64 ≤ S.length)
    (hbel : Below w.drew.heap.size w.drew w2) (hown' : w2.ownsRow w.drew.heap.size 5 1 v' l.length (u8s l))
    (hg3 : w2.grownBy w3 pv.ownBlock) (hown3 : w3.ownsRow B 59 2 pv3 (P.length + 1) (cellsW P ++ [.int .i64 k, v']))
    (hs3 : w3.heap[db]? = some (.cells #[sv, pv] 53 (0, 0))) (hat : pv3.ownBlock = pv.ownBlock ∨ pv3.ownBlock = some (w2.heap.size + 1)) :
    WritePost B db sv pv S P k l w (.returned (.int .i64 0)) (w3.setCell ⟨db, 1, none⟩ pv3) := by
  have hdb : db < w.heap.size := (Array.getElem?_eq_some_iff.1 hf.st).1
  have hsz : w.heap.size ≤ w2.heap.size := hbel.size
  have key : ∀ {base : Nat} {v : Value} {n : Nat} {xs : List Value}, w2.ownsRow base 5 1 v n xs → (w3.setCell ⟨db, 1, none⟩ pv3).ownsRow base 5 1 v n xs := by
    intro base v n xs h
    have h3 : w3.ownsRow base 5 1 v n xs := by
      refine h.kept hg3 ?_
      cases hv : v.ownBlock with
      | none => exact .inl rfl
      | some g =>
        refine .inr fun e => ?_
        obtain ⟨c1, e1⟩ := own_type h hv
        obtain ⟨c2, e2⟩ := own_type hf.pend e.symm
        have hlt := (hf.pend.lt g e.symm).2
        rw [(hbel.block g hlt : w2.heap[g]? = w.drew.heap[g]?)] at e1
        rw [show w.drew.heap[g]? = w.heap[g]? from rfl, e2] at e1
        cases e1
    refine ownsRow_setCell_other h3 (own_ne h3 fun cur h => ?_) _
    rw [hs3] at h; cases h
  refine ⟨pv3, v', rfl, ⟨hf.hB, ?_, ?_, ?_, ?_⟩, ?_, key hown', fun g hg => by
    rcases hat with h | h
    · exact .inl (h ▸ hg)
    · rw [h] at hg; cases hg; exact .inr (by omega)⟩
  · have := Own.heap_setCell_same hs3 1 pv3
    simpa using this
  · exact key (own_below hf.safe.drew hbel)
  · rw [List.length_append, cellsW_snoc]
    refine ownsRow_setCell_other hown3 (own_ne hown3 fun cur h => ?_) _
    rw [hs3] at h; cases h
  · intro p hp
    rcases List.mem_append.1 hp with hp | hp
    · exact ⟨key (own_below (hf.bytes p hp).1.drew hbel), (hf.bytes p hp).2⟩
    · rw [List.mem_singleton.1 hp]
      refine ⟨key (own_mono hown' (Nat.le_trans hf.hB (Nat.le_of_lt hdb))), hl, fun g hg hg2 => ?_, hk⟩
      have a1 := (hown'.lt g hg).1
      have a2 := (hf.safe.lt g hg2).2
      have a3 : w.drew.heap.size = w.heap.size := rfl
      omega
  · refine Chg.trans (ks' := db :: pv.ownBlock.toList) (Chg.trans (ks' := db :: pv.ownBlock.toList) ((Chg.refl _ w).drew.trans (ks' := []) (Chg.of_below hbel) (fun x hx => by cases hx)) (Chg.grown hg3 fun k hk => ?_) (fun x hx _ => hx)) (Chg.setCell _ (List.mem_cons_self ..)) (fun x hx _ => hx)
    rw [hk]; simp

set_option maxRecDepth 100000 in
theorem write_in (B db n k : Nat) (sv pv : Value) (S : List UInt8) (P : List Wr) (l : List UInt8) (v : Value) (w : World) (hf : DiskAt B db sv pv S P w) (hS : S.length = n * 64) (hn : n ≤ 4096) (hk : k < n) (hv : ReadsB w v l) (hl : l.length = 64) (hP : P.length < 16384) :
    Calls Try.prog 8 #[.pointer (some ⟨db, 0, none⟩), .int .i64 k, v] w (WritePost B db sv pv S P k l w) := by
  obtain ⟨A, c, rfl⟩ := own_slice hf.pend
  obtain ⟨As, cs, rfl⟩ := own_slice hf.safe
  obtain ⟨Av, cv, rfl⟩ := hv.slice
  have hc0 : w.cell? ⟨db, 1, none⟩ = some (.slice A P.length c) := by rw [cell_of_row w db 1 _ _ _ hf.st]; rfl
  have hdb : db < w.heap.size := (Array.getElem?_eq_some_iff.1 hf.st).1
  have hst := hf.st
  rw [hS] at hst
  have hi : inB n k = true := by simp [inB]; omega
  have HH := has_any db As n cs (.slice A P.length c) k w hst hn
  rw [hi] at HH
  have HI := Lib.hid HH
  have HC := Lib.hid (fun w => clone_any (.slice Av l.length cv) l w)
  have HF := Lib.hid hf
  have HL2 : Hid ((P.length + 1) * 32 ≤ 140737488355328) := by show _ ≤ _; omega
  have HL3 : Hid (P.length + 1 ≤ 140737488355328) := by show _ ≤ _; omega
  have HL4 : Hid (l.length ≤ 140737488351232) := by show _ ≤ _; omega
  have HNE : Hid (some db ≠ (Value.slice A P.length c).ownBlock) := fun h => own_ne hf.pend (fun cur h2 => by rw [hf.st] at h2; cases h2) h.symm
  have hl' : ((l.length : Int) != 64) = false := by rw [hl]; rfl
  have HX : Hid (k * 64 + 64 ≤ S.length) := by show _ ≤ _; omega
  have HY := Lib.hid hl
  clear hf hst HH hi hS hl hP
  go_enter Try.func8, Try.ntmps8
  go_wp2_with (go_at_call 21; refine HI.out.mono ?_; rintro e w' ⟨rfl, rfl⟩)
  go_region_law (first | (go_simp; go_at_call 22; refine (HC.out _ ?_ HL4.out).mono ?_; (exact hv); rintro e w2 ⟨v', rfl, hown', hbel', _⟩; obtain ⟨A', c', rfl⟩ := own_slice hown'; have hk : w2.cell? ⟨db, 1, none⟩ = some (.slice A P.length c) := (hbel'.cell (p := ⟨db, 1, none⟩) (by simpa using hdb)).trans (by simpa using hc0); have hkA : ∀ o : Obj, (w2.alloc o).cell? ⟨db, 1, none⟩ = some (.slice A P.length c) := fun o => (((Below.refl w2.heap.size w2).alloc (Nat.le_refl _) o).cell (p := ⟨db, 1, none⟩) (World.block_lt_of_cell? w2 _ hk)).trans hk; have hst2 := (hbel'.block db (by simpa using hdb)).trans HF.out.st; have hO2 : w2.ownsRow B 59 2 (.slice A P.length c) P.length (cellsW P) := own_below HF.out.pend.drew hbel'; have hBs : B ≤ w2.heap.size := Nat.le_trans (Nat.le_trans HF.out.hB (Nat.le_of_lt hdb)) hbel'.size) | (refine Own.step_append_one hO2 (Below.refl B w2) Try.underlying51 infoW rfl (by decide) [.int .i64 k, .slice A' l.length c'] rfl (wr_one _ _ _ _) (Nat.le_refl B) hBs HL2.out HL3.out (by rfl) (by rfl) (by rfl) (by rfl) ?_; intro v1 w3 hown3 hbel3 hg3 hat3 hv3; obtain ⟨A3, c3, rfl⟩ := hv3; have hs3 := (hg3.block db (Nat.lt_of_lt_of_le hdb hbel'.size) HNE.out).trans hst2; have hk2 : w3.cell? ⟨db, 1, none⟩ = some (.slice A P.length c) := hg3.cell hk HNE.out; have hz2 := frozen_of_block hs3 1))
  all_goals
    have HP := Lib.hid (write_close (k := k) HF.out HY.out HX.out hbel' hown' hg3 hown3 hs3 hat3)
    clear hbel' hown' hst2 hg3 hown3 hs3 hk hkA hO2 hbel3 hat3 hk2 hz2 hBs
    go_wp2_with fail
    go_ret
    exact HP.out
end Go.Proofs.Ytjlbamjebidhgaa
