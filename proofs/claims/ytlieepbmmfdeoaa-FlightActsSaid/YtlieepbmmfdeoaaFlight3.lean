/- The walks of a flight's Post (full), Drop, Twice. -/
import Derived.Test.YtlieepbmmfdeoaaDelete
namespace Go.Proofs.Ytlieepbmmfdeoaa
open Go.RowKit Own

theorem heap_cell_same {w : World} {b : Nat} {cs : Array Value} {t : TypeId} {fr : Nat × Nat} (h : w.heap[b]? = some (.cells cs t fr)) (o : Nat) (u : Value) : (w.setCell ⟨b, o, none⟩ u).heap[b]? = some (.cells (cs.setIfInBounds o u) t fr) := Own.heap_setCell_same h o u

def BoolSame (b : Bool) (w : World) (e : Ending) (w' : World) : Prop := w = w' ∧ e = .returned (.bool b)
def DropPost (B fb mb : Nat) (lv : Value) (L : List (Msg × Value)) (k : Nat) (w : World) (e : Ending) (w' : World) : Prop :=
  ∃ lv', e = .returned (.bool true) ∧ FlightAt B fb mb lv' (L.eraseIdx k) w' ∧ Chg (fb :: lv.ownBlock.toList) w w'

theorem cellsOf_one (L : List (Msg × Value)) (h : ∀ p ∈ L, p.2.oneCell' = true) : ∀ u ∈ cellsOf L, u.oneCell' = true := by
  intro u hu
  obtain ⟨p, hp, hu⟩ := List.mem_flatMap.1 hu
  simp only [List.mem_cons, List.mem_nil_iff, or_false] at hu
  rcases hu with rfl | rfl | rfl
  · rfl
  · rfl
  · exact h p hp
theorem FlightAt.ones {B fb mb : Nat} {lv : Value} {L : List (Msg × Value)} {w : World} (hf : FlightAt B fb mb lv L w) : ∀ p ∈ L, p.2.oneCell' = true := by
  intro p hp
  obtain ⟨A, c, h⟩ := own_slice (hf.bytes p hp)
  rw [h]; rfl

theorem drop_close {B fb mb g cap k : Nat} {L : List (Msg × Value)} {cur : Array Value} {w w2 : World} (hf : FlightAt B fb mb (.slice (some ⟨g, 0, none⟩) L.length cap) L w) (hk : k < L.length)
    (hcap : L.length ≤ cap) (hcm : cap ≤ maxLen) (hsz : cur.size = cap * 3) (hcur : cur.toList.take (L.length * 3) = cellsOf L) (hg : w.heap[g]? = some (.cells cur 55 (0, 0)))
    (hgB : B ≤ g) (hw2 : w2.heap[g]? = some (.cells (delRow cur k L.length) 55 (0, 0))) (hc : Chg [g] w w2) :
    DropPost B fb mb (.slice (some ⟨g, 0, none⟩) L.length cap) L k w (.returned (.bool true)) (w2.setCell ⟨fb, 0, none⟩ (.slice (some ⟨g, 0, none⟩) (L.length - 1) cap)) := by
  have hfb : fb < w.heap.size := (Array.getElem?_eq_some_iff.1 hf.st).1
  have hne : fb ≠ g := by rintro rfl; rw [hf.st] at hg; cases hg
  have hst2 := (hc.block fb hfb (by simpa using hne)).trans hf.st
  have hlen : (L.eraseIdx k).length = L.length - 1 := List.length_eraseIdx_of_lt hk
  have key : ∀ {v : Value} {n : Nat} {xs : List Value}, w.ownsRow B 5 1 v n xs → (w2.setCell ⟨fb, 0, none⟩ (.slice (some ⟨g, 0, none⟩) (L.length - 1) cap)).ownsRow B 5 1 v n xs := by
    intro v n xs h
    refine own_same h fun b hb => ?_
    obtain ⟨c1, e1⟩ := own_type h hb
    have n1 : b ≠ g := by rintro rfl; rw [e1] at hg; cases hg
    have n2 : b ≠ fb := by rintro rfl; have := hf.st; rw [e1] at this; cases this
    rw [Below.heap_setCell _ _ _ _ (by simpa using n2)]
    exact hc.block b (h.lt b hb).2 (by simpa using n1)
  refine ⟨.slice (some ⟨g, 0, none⟩) (L.length - 1) cap, rfl, ⟨hf.hB, ?_, ?_, ?_⟩, ?_⟩
  · simpa using Own.heap_setCell_same hst2 0 (.slice (some ⟨g, 0, none⟩) (L.length - 1) cap)
  · rw [hlen]
    refine ⟨by rw [cellsOf_length, hlen], .inr ⟨g, cap, delRow cur k L.length, rfl, hgB, ?_, by omega, hcm, ?_, ?_⟩⟩
    · rw [Below.heap_setCell _ _ _ _ (by simpa using hne.symm)]; exact hw2
    · unfold delRow; rw [setL_size, setL_size]; exact hsz
    · exact delRow_take cur k L.length L hk rfl (by rw [hsz]; omega) hcur
  · intro p hp
    exact key (hf.bytes p (List.mem_of_mem_eraseIdx hp))
  · refine (Chg.trans (ks := fb :: (Value.ownBlock (.slice (some ⟨g, 0, none⟩) L.length cap)).toList) (ks' := [g]) (Chg.refl _ w) hc (fun x hx _ => ?_)).trans (Chg.setCell _ (List.mem_cons_self ..)) (fun x hx _ => hx)
    simp at hx; simp [Value.ownBlock, hx]

theorem drop_in (B fb mb : Nat) (lv : Value) (L : List (Msg × Value)) (k : Nat) (hk : k < L.length) (w : World) (hf : FlightAt B fb mb lv L w) (hL : L.length ≤ 16384) :
    Calls Try.prog 14 #[.pointer (some ⟨fb, 0, none⟩), .int .i64 k] w (DropPost B fb mb lv L k w) := by
  rcases hf.own.2 with ⟨_, h0⟩ | ⟨g, cap, cur, rfl, hgB, hg, hcap, hcm, hsz, hcur⟩
  · omega
  have hc0 : w.cell? ⟨fb, 0, none⟩ = some (.slice (some ⟨g, 0, none⟩) L.length cap) := by rw [cell_of_row w fb 0 _ _ _ hf.st]; rfl
  have hfb : fb < w.heap.size := (Array.getElem?_eq_some_iff.1 hf.st).1
  have HLn := Lib.hid (len_any fb mb _ _ _ w hf.st)
  have HD := Lib.hid (del_any B g k L.length cap cur w hg hgB hk hL hcap (by simpa only [maxLen] using hcm) hsz (by rw [hcur]; exact cellsOf_one L hf.ones))
  have HC := Lib.hid (fun w2 => drop_close (k := k) (w2 := w2) hf hk hcap hcm hsz hcur hg hgB)
  have hne : fb ≠ g := by rintro rfl; rw [hf.st] at hg; cases hg
  have HST : Hid (∀ w2, Chg [g] w w2 → w2.heap[fb]? = some (.cells #[.slice (some ⟨g, 0, none⟩) L.length cap, .map (some mb)] 50 (0, 0))) := fun w2 hc => (hc.block fb hfb (by simpa using hne)).trans hf.st
  have hk' : (k : Int) < (L.length : Int) := by omega
  have hL' : (L.length : Int) ≤ 16384 := by omega
  clear hf hg hcap hcm hsz hcur hgB hL
  go_enter Try.func14, Try.ntmps14
  go_wp2_with (first | (go_at_call 16; refine HLn.out.mono ?_; rintro e w' ⟨rfl, rfl⟩) | (go_at_call 24; refine HD.out.mono ?_; rintro e w2 ⟨rfl, hw2, hch, _⟩; have hst2 := HST.out w2 hch; have hcc : w2.cell? ⟨fb, 0, none⟩ = some (.slice (some ⟨g, 0, none⟩) L.length cap) := (by rw [cell_of_row w2 fb 0 _ _ _ hst2]; rfl); have hfz := frozen_of_block hst2 0))
  go_ret
  exact HC.out w2 hw2 hch

theorem drop_out (B fb mb : Nat) (lv : Value) (L : List (Msg × Value)) (i : Int) (hi : i < 0 ∨ (L.length : Int) ≤ i) (w : World) (hf : FlightAt B fb mb lv L w) :
    Calls Try.prog 14 #[.pointer (some ⟨fb, 0, none⟩), .int .i64 i] w (BoolSame false w) := by
  obtain ⟨A, c, rfl⟩ := own_slice hf.own
  have HLn := Lib.hid (len_any fb mb _ _ _ w hf.st)
  clear hf
  rcases hi with hi | hi
  · go_enter Try.func14, Try.ntmps14
    go_wp2_with (go_at_call 16; refine HLn.out.mono ?_; rintro e w' ⟨rfl, rfl⟩)
    go_ret
    exact ⟨rfl, rfl⟩
  · have h0 : ¬ i < 0 := by omega
    go_enter Try.func14, Try.ntmps14
    go_wp2_with (go_at_call 16; refine HLn.out.mono ?_; rintro e w' ⟨rfl, rfl⟩)
    go_ret
    exact ⟨rfl, rfl⟩

theorem post_full (B fb mb : Nat) (lv : Value) (L : List (Msg × Value)) (a b : Int) (v : Value) (w : World) (hf : FlightAt B fb mb lv L w) (hL : 16384 ≤ L.length) :
    Calls Try.prog 12 #[.pointer (some ⟨fb, 0, none⟩), .int .i64 a, .int .i64 b, v] w (BoolSame false w) := by
  obtain ⟨A, c, rfl⟩ := own_slice hf.own
  have hc0 : w.cell? ⟨fb, 0, none⟩ = some (.slice A L.length c) := by rw [cell_of_row w fb 0 _ _ _ hf.st]; rfl
  have HI := Lib.hid (is_any fb mb _ w hf.st)
  have hL' : decide ((16384 : Int) ≤ (L.length : Int)) = true := decide_eq_true (by omega)
  clear hf hL
  go_enter Try.func12, Try.ntmps12
  go_wp2_with (go_at_call 23; refine HI.out.mono ?_; rintro e w' ⟨rfl, rfl⟩)
  go_ret
  exact ⟨rfl, rfl⟩

theorem FlightAt.below {B fb mb : Nat} {lv : Value} {L : List (Msg × Value)} {w w' : World} (hf : FlightAt B fb mb lv L w) (hb : Below w.heap.size w w') : FlightAt B fb mb lv L w' :=
  ⟨hf.hB, (hb.block fb (Array.getElem?_eq_some_iff.1 hf.st).1).trans hf.st, own_below hf.own hb, fun p hp => own_below (hf.bytes p hp) hb⟩

/-- what Twice leaves: room, or none -/
def TwicePost (B fb mb : Nat) (lv : Value) (L : List (Msg × Value)) (m : Msg) (w : World) (e : Ending) (w' : World) : Prop :=
  ∃ lv' v, e = .returned (.bool true) ∧ FlightAt B fb mb lv' (L ++ [(m, v)]) w' ∧ Chg (fb :: lv.ownBlock.toList) w w' ∧ w'.ownsRow w.heap.size 5 1 v m.b.length (u8s m.b)
theorem twice_in (B fb mb : Nat) (lv : Value) (L : List (Msg × Value)) (k : Nat) (hk : k < L.length) (w : World) (hf : FlightAt B fb mb lv L w) (hb : (L[k]'hk).1.b.length ≤ 140737488351232) (hL : L.length < 16384) :
    Calls Try.prog 11 #[.pointer (some ⟨fb, 0, none⟩), .int .i64 k] w (TwicePost B fb mb lv L (L[k]'hk).1 w) := by
  have HL := Lib.hid (look_in B fb mb lv L k hk w hf hb (by omega))
  have HP := Lib.hid (fun (w1 : World) (h : Below w.heap.size w w1) (v : Value) (hv : ReadsB w1 v (L[k]'hk).1.b) => post_any B fb mb lv L (L[k]'hk).1 v w1 (hf.below h) hv hb hL)
  have hlv : ∀ x ∈ fb :: lv.ownBlock.toList, x < w.heap.size := by
    intro x hx
    rcases List.mem_cons.1 hx with rfl | hx
    · exact (Array.getElem?_eq_some_iff.1 hf.st).1
    · exact (hf.own.lt x (by simpa using hx)).2
  generalize (L[k]'hk).1 = m at *
  have HX := Lib.hid hlv
  clear hf hb hL hlv
  go_enter Try.func11, Try.ntmps11
  go_wp2_with (first | (go_at_call 10; refine HL.out.mono ?_; rintro e w1 ⟨hb1, v, rfl, hv⟩; have hrd := ReadsB.own hv) | (go_at_call 12; refine (HP.out w1 hb1 _ hrd).mono ?_; rintro e w2 ⟨lv2, v2, rfl, hf2, hch, hv2⟩))
  go_ret
  exact ⟨lv2, v2, rfl, hf2, (Chg.of_below hb1).trans hch (fun x hx _ => hx), own_mono hv2 hb1.size⟩
theorem twice_out (B fb mb : Nat) (lv : Value) (L : List (Msg × Value)) (i : Int) (hi : i < 0 ∨ (L.length : Int) ≤ i) (w : World) (hf : FlightAt B fb mb lv L w) :
    Calls Try.prog 11 #[.pointer (some ⟨fb, 0, none⟩), .int .i64 i] w (BoolSame false w) := by
  have HL := Lib.hid (look_out B fb mb lv L i hi w hf)
  clear hf hi
  go_enter Try.func11, Try.ntmps11
  go_wp2_with (go_at_call 10; refine HL.out.mono ?_; rintro e w1 ⟨rfl, rfl⟩)
  go_ret
  exact ⟨rfl, rfl⟩
theorem twice_full (B fb mb : Nat) (lv : Value) (L : List (Msg × Value)) (k : Nat) (hk : k < L.length) (w : World) (hf : FlightAt B fb mb lv L w) (hb : (L[k]'hk).1.b.length ≤ 140737488351232) (hL : L.length = 16384) :
    Calls Try.prog 11 #[.pointer (some ⟨fb, 0, none⟩), .int .i64 k] w fun e w' => e = .returned (.bool false) ∧ Below w.heap.size w w' := by
  have HL := Lib.hid (look_in B fb mb lv L k hk w hf hb (by omega))
  have HP := Lib.hid (fun (w1 : World) (h : Below w.heap.size w w1) (v : Value) => post_full B fb mb lv L (L[k]'hk).1.fr (L[k]'hk).1.to v w1 (hf.below h) (by omega))
  generalize (L[k]'hk).1 = m at *
  clear hf hb hL
  go_enter Try.func11, Try.ntmps11
  go_wp2_with (first | (go_at_call 10; refine HL.out.mono ?_; rintro e w1 ⟨hb1, v, rfl, hv⟩) | (go_at_call 12; refine (HP.out w1 hb1 _).mono ?_; rintro e w2 ⟨rfl, rfl⟩))
  go_ret
  exact ⟨rfl, hb1⟩
end Go.Proofs.Ytlieepbmmfdeoaa
