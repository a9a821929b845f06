/- A flight in memory, and the walks of its methods. -/
import Derived.Test.YtlieepbmmfdeoaaClone
import Derived.Test.YtlieepbmmfdeoaaMap
import Derived.Deep.QuietTactic
import Derived.BigQuiet
import Derived.Deep.RegionHeld3
import Derived.Deep.RegionLaw
namespace Go.Proofs.Ytlieepbmmfdeoaa
open Go.RowKit Own

structure Msg where
  fr : Int
  to : Int
  b : List UInt8
def cellsOf (L : List (Msg × Value)) : List Value := L.flatMap fun p => [.int .i64 p.1.fr, .int .i64 p.1.to, p.2]
theorem cellsOf_length (L : List (Msg × Value)) : (cellsOf L).length = L.length * 3 := by
  induction L with
  | nil => rfl
  | cons p L ih => simp only [cellsOf, List.flatMap_cons, List.length_append] at *; rw [ih]; simp; omega

theorem infoMsg : (Try.prog.info? 55).map (fun i => (i.zero, i.size, i.bytes)) = some (some (.agg #[.int .i64 0, .int .i64 0, .slice none 0 0]), 3, 40) := by kernel_rfl
structure FlightAt (B fb mb : Nat) (lv : Value) (L : List (Msg × Value)) (w : World) : Prop where
  hB : B ≤ fb
  st : w.heap[fb]? = some (.cells #[lv, .map (some mb)] 50 (0, 0))
  own : w.ownsRow B 55 3 lv L.length (cellsOf L)
  bytes : ∀ p ∈ L, w.ownsRow B 5 1 p.2 p.1.b.length (u8s p.1.b)
theorem msg_one (a b : Int) (A : Option Addr) (n c : Nat) : ∀ u ∈ [Value.int .i64 a, .int .i64 b, .slice A n c], u.oneCell' = true := fun u hu => by
  simp only [List.mem_cons, List.mem_nil_iff, or_false] at hu
  rcases hu with rfl | rfl | rfl <;> rfl
theorem is_any (fb mb : Nat) (lv : Value) (w : World) (hst : w.heap[fb]? = some (.cells #[lv, .map (some mb)] 50 (0, 0))) :
    Calls Try.prog 23 #[.pointer (some ⟨fb, 0, none⟩)] w fun e w' => e = .returned (.bool true) ∧ w = w' := by
  have hc0 : w.cell? ⟨fb, 0, none⟩ = some lv := by rw [cell_of_row w fb 0 _ _ _ hst]; rfl
  have hc1 : w.cell? ⟨fb, 1, none⟩ = some (.map (some mb)) := by rw [cell_of_row w fb 1 _ _ _ hst]; rfl
  have hm := fun w => run_neq_map_nil (P := Try.prog) w 48 59 4 (some mb) Try.underlying48
  go_enter Try.func23, Try.ntmps23
  go_wp2_with fail
  go_ret
  exact ⟨rfl, rfl⟩

theorem len_any (fb mb : Nat) (A : Option Addr) (n c : Nat) (w : World) (hst : w.heap[fb]? = some (.cells #[.slice A n c, .map (some mb)] 50 (0, 0))) :
    Calls Try.prog 16 #[.pointer (some ⟨fb, 0, none⟩)] w fun e w' => e = .returned (.int .i64 n) ∧ w = w' := by
  have hc0 : w.cell? ⟨fb, 0, none⟩ = some (.slice A n c) := by rw [cell_of_row w fb 0 _ _ _ hst]; rfl
  have HI := Lib.hid (is_any fb mb _ w hst)
  clear hst
  go_enter Try.func16, Try.ntmps16
  go_wp2_with (go_at_call 23; refine HI.out.mono ?_; rintro e w' ⟨rfl, rfl⟩)
  go_ret
  exact ⟨rfl, rfl⟩

theorem cellsOf_snoc (L : List (Msg × Value)) (m : Msg) (v : Value) : cellsOf (L ++ [(m, v)]) = cellsOf L ++ [.int .i64 m.fr, .int .i64 m.to, v] := by
  simp [cellsOf]

def PostPost (B fb mb : Nat) (lv : Value) (L : List (Msg × Value)) (m : Msg) (w : World) (e : Ending) (w' : World) : Prop :=
  ∃ lv' v, e = .returned (.bool true) ∧ FlightAt B fb mb lv' (L ++ [(m, v)]) w' ∧ Chg (fb :: lv.ownBlock.toList) w w' ∧ w'.ownsRow w.heap.size 5 1 v m.b.length (u8s m.b)

theorem post_close {B fb mb : Nat} {L : List (Msg × Value)} {m : Msg} {w w2 w3 : World} {lv v' lv3 : Value} (hf : FlightAt B fb mb lv L w)
    (hbel : Below w.drew.heap.size w.drew w2) (hown' : w2.ownsRow w.drew.heap.size 5 1 v' m.b.length (u8s m.b))
    (_hst2 : w2.heap[fb]? = some (.cells #[lv, .map (some mb)] 50 (0, 0)))
    (hg3 : w2.grownBy w3 lv.ownBlock) (hown3 : w3.ownsRow B 55 3 lv3 (L.length + 1) (cellsOf L ++ [.int .i64 m.fr, .int .i64 m.to, v']))
    (hs3 : w3.heap[fb]? = some (.cells #[lv, .map (some mb)] 50 (0, 0))) :
    PostPost B fb mb lv L m w (.returned (.bool true)) (w3.setCell ⟨fb, 0, none⟩ lv3) := by
  have hfb : fb < w.heap.size := (Array.getElem?_eq_some_iff.1 hf.st).1
  have hsz : w.heap.size ≤ w2.heap.size := hbel.size
  have key : ∀ {base : Nat} {v : Value} {n : Nat} {xs : List Value}, w2.ownsRow base 5 1 v n xs → (w3.setCell ⟨fb, 0, none⟩ lv3).ownsRow base 5 1 v n xs := by
    intro base v n xs h
    have h3 : w3.ownsRow base 5 1 v n xs := by
      refine h.kept hg3 ?_
      cases hv : v.ownBlock with
      | none => exact .inl rfl
      | some g =>
        refine .inr fun e => ?_
        obtain ⟨c1, e1⟩ := own_type h hv
        obtain ⟨c2, e2⟩ := own_type hf.own e.symm
        have hlt := (hf.own.lt g e.symm).2
        rw [(hbel.block g hlt : w2.heap[g]? = w.drew.heap[g]?)] at e1
        rw [show w.drew.heap[g]? = w.heap[g]? from rfl, e2] at e1
        cases e1
    refine ownsRow_setCell_other h3 (own_ne h3 fun cur h => ?_) _
    rw [hs3] at h; cases h
  refine ⟨lv3, v', rfl, ⟨hf.hB, ?_, ?_, ?_⟩, ?_, key hown'⟩
  · have := Own.heap_setCell_same hs3 0 lv3
    simpa using this
  · rw [List.length_append, cellsOf_snoc]
    refine ownsRow_setCell_other hown3 (own_ne hown3 fun cur h => ?_) _
    rw [hs3] at h; cases h
  · intro p hp
    rcases List.mem_append.1 hp with hp | hp
    · exact key (own_below (hf.bytes p hp).drew hbel)
    · rw [List.mem_singleton.1 hp]
      exact key (own_mono hown' (Nat.le_trans hf.hB (Nat.le_of_lt hfb)))
  · refine Chg.trans (ks' := fb :: lv.ownBlock.toList) (Chg.trans (ks' := fb :: lv.ownBlock.toList) ((Chg.refl _ w).drew.trans (ks' := []) (Chg.of_below hbel) (fun x hx => by cases hx)) (Chg.grown hg3 fun k hk => ?_) (fun x hx _ => hx)) (Chg.setCell _ (List.mem_cons_self ..)) (fun x hx _ => hx)
    rw [hk]; simp

set_option maxRecDepth 100000 in
theorem post_any (B fb mb : Nat) (lv : Value) (L : List (Msg × Value)) (m : Msg) (v : Value) (w : World) (hf : FlightAt B fb mb lv L w) (hv : ReadsB w v m.b) (hb : m.b.length ≤ 140737488351232) (hL : L.length < 16384) :
    Calls Try.prog 12 #[.pointer (some ⟨fb, 0, none⟩), .int .i64 m.fr, .int .i64 m.to, v] w (PostPost B fb mb lv L m w) := by
  obtain ⟨A, c, rfl⟩ := own_slice hf.own
  have hc0 : w.cell? ⟨fb, 0, none⟩ = some (.slice A L.length c) := by rw [cell_of_row w fb 0 _ _ _ hf.st]; rfl
  have hfb : fb < w.heap.size := (Array.getElem?_eq_some_iff.1 hf.st).1
  have HI := Lib.hid (is_any fb mb _ w hf.st)
  have HC := Lib.hid (fun w => clone_any v m.b w)
  have HF := Lib.hid hf
  have HL2 : Hid ((L.length + 1) * 40 ≤ 140737488355328) := by show _ ≤ _; omega
  have HL3 : Hid (L.length + 1 ≤ 140737488355328) := by show _ ≤ _; omega
  have HNE : Hid (some fb ≠ (Value.slice A L.length c).ownBlock) := fun h => own_ne hf.own (fun cur h2 => by rw [hf.st] at h2; cases h2) h.symm
  have hL' : decide ((16384 : Int) ≤ (L.length : Int)) = false := decide_eq_false (by omega)
  clear hf hL
  go_enter Try.func12, Try.ntmps12
  go_wp2_with (go_at_call 23; refine HI.out.mono ?_; rintro e w' ⟨rfl, rfl⟩)
  go_region_law (first | (go_simp; go_at_call 22; refine (HC.out _ ?_ hb).mono ?_; (exact hv); rintro e w2 ⟨v', rfl, hown', hbel', _⟩; obtain ⟨A', c', rfl⟩ := own_slice hown'; have hk : w2.cell? ⟨fb, 0, none⟩ = some (.slice A L.length c) := (hbel'.cell (p := ⟨fb, 0, none⟩) (by simpa using hfb)).trans (by simpa using hc0); have hkA : ∀ o : Obj, (w2.alloc o).cell? ⟨fb, 0, none⟩ = some (.slice A L.length c) := fun o => (((Below.refl w2.heap.size w2).alloc (Nat.le_refl _) o).cell (p := ⟨fb, 0, none⟩) (World.block_lt_of_cell? w2 _ hk)).trans hk; have hst2 := (hbel'.block fb (by simpa using hfb)).trans HF.out.st; have hO2 : w2.ownsRow B 55 3 (.slice A L.length c) L.length (cellsOf L) := own_below HF.out.own.drew hbel'; have hBs : B ≤ w2.heap.size := Nat.le_trans (Nat.le_trans HF.out.hB (Nat.le_of_lt hfb)) hbel'.size) | (refine Own.step_append_one hO2 (Below.refl B w2) Try.underlying47 infoMsg rfl (by decide) [.int .i64 m.fr, .int .i64 m.to, .slice A' m.b.length c'] rfl (msg_one _ _ _ _ _) (Nat.le_refl B) hBs HL2.out HL3.out (by rfl) (by rfl) (by rfl) (by rfl) ?_; intro v1 w3 hown3 hbel3 hg3 hat3 hv3; obtain ⟨A3, c3, rfl⟩ := hv3; have hs3 := (hg3.block fb (Nat.lt_of_lt_of_le hfb hbel'.size) HNE.out).trans hst2; have hk2 : w3.cell? ⟨fb, 0, none⟩ = some (.slice A L.length c) := hg3.cell hk HNE.out; have hz2 := frozen_of_block hs3 0))
  all_goals
    have HP := Lib.hid (post_close HF.out hbel' hown' hst2 hg3 hown3 hs3)
    clear hbel' hown' hst2 hg3 hown3 hs3 hk hkA hO2 hbel3 hat3 hk2 hz2 hBs
    go_wp2_with fail
    go_ret
    exact HP.out
#print axioms post_any
end Go.Proofs.Ytlieepbmmfdeoaa
