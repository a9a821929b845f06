/- The walk of the reference's Rot. -/
import Derived.Test.YtjlbamjebidhgaaRef4
namespace Go.Proofs.Ytjlbamjebidhgaa
open Go.RowKit Own

theorem strs_one (SS : List (List UInt8)) : ∀ u ∈ SS.map strV, u.oneCell' = true := fun u hu => by
  obtain ⟨b, _, rfl⟩ := List.mem_map.1 hu
  rfl
/-- 'append([]string{}, l...)' -/
theorem own_copyS (B g cap : Nat) (SS : List (List UInt8)) (w : World) (h : w.ownsRow B 9 1 (.slice (some ⟨g, 0, none⟩) SS.length cap) SS.length (SS.map strV)) (hl : SS.length ≤ 4096) (h0 : 0 < SS.length) :
    ∃ g2 cap2 wA, (Builtin.append_ #[44, 44] 44 #[.slice (some ⟨w.heap.size, 0, none⟩) 0 0, .slice (some ⟨g, 0, none⟩) SS.length cap]).run Try.prog (w.alloc (.cells #[] 9)) = .ok (.slice (some ⟨g2, 0, none⟩) SS.length cap2) wA ∧
      wA.ownsRow w.heap.size 9 1 (.slice (some ⟨g2, 0, none⟩) SS.length cap2) SS.length (SS.map strV) ∧ Below w.heap.size w wA := by
  obtain ⟨i0, hi, hz0, hz1, hz2⟩ := info_parts infoS
  have hmade : (w.alloc (.cells #[] 9)).ownsRow w.heap.size 9 1 (.slice (some ⟨w.heap.size, 0, none⟩) 0 0) 0 [] :=
    World.ownsRow_made w #[] 0 (Nat.le_refl _) (by unfold maxLen; omega) rfl
  have hbel : Below w.heap.size w (w.alloc (.cells #[] 9)) := (Below.refl _ _).alloc (Nat.le_refl _) _
  have hsz : w.heap.size ≤ (w.alloc (.cells #[] 9)).heap.size := hbel.size
  have hc2 : ∀ j u, (SS.map strV)[j]? = some u → (w.alloc (.cells #[] 9)).cell? ((⟨g, 0, none⟩ : Addr).add j) = some u := fun j u hu => by
    have h1 := h.cells (g := g) rfl j u hu
    rw [hbel.cell (World.block_lt_of_cell? w _ h1)]
    exact h1
  obtain ⟨v1, w1, hr, hown, hg, _, _⟩ := run_append_own_at (P := Try.prog) (w.alloc (.cells #[] 9)) w.heap.size 44 44 9 i0 (.string ⟨#[]⟩) 1 16 Try.underlying44 hi hz0 hz1 hz2 rfl (by decide) _ 0 [] hmade ⟨g, 0, none⟩ SS.length cap (SS.map strV) (by simp) hc2 (strs_one SS) (by unfold maxLen; omega) (by omega) hsz
  simp only [Nat.zero_add, List.nil_append] at hown
  rcases hown.2 with ⟨_, hn⟩ | ⟨g2, cap2, cur, rfl, _⟩
  · omega
  · exact ⟨g2, cap2, w1, hr, hown, hbel.grown hg hsz (fun k hk => (hmade.lt k hk).1)⟩
theorem ReadsB.set {w : World} {g c j : Nat} {l : List UInt8} (h : ReadsB w (.slice (some ⟨g, 0, none⟩) l.length c) l) (hj : j < l.length) (y : UInt8) :
    ReadsB (w.setCell ⟨g, j, none⟩ (.int .u8 (y.toNat : Int))) (.slice (some ⟨g, 0, none⟩) l.length c) (l.set j y) := by
  rcases h with ⟨h0, _⟩ | ⟨a, c', hv, hc⟩
  · cases h0
  · cases hv
    refine .inr ⟨⟨g, 0, none⟩, c, by rw [List.length_set], fun i u hu => ?_⟩
    rw [Addr.add_lit, Nat.zero_add]
    have hi : i < l.length := by have := (List.getElem?_eq_some_iff.1 hu).1; simpa [u8s] using this
    have h1 := hc i (.int .u8 ((l[i]'hi).toNat : Int)) (by simp [u8s, hi])
    rw [Addr.add_lit, Nat.zero_add] at h1
    by_cases hij : i = j
    · subst hij
      rw [World.cell?_setCell_same _ _ _ h1]
      rw [← hu]
      simp [u8s, hi]
    · rw [World.cell?_setCell_other _ _ _ _ (fun e => hij (by cases e; rfl)), h1, ← hu]
      simp only [u8s, List.getElem?_map, List.getElem?_set_ne (Ne.symm hij), List.getElem?_eq_getElem hi, Option.map_some]
theorem RfAt.setS {B rb g2 cap2 : Nat} {sv pv : Value} {SS : List (List UInt8)} {Q : List (Nat × List UInt8)} {w wA : World} (h : RfAt B rb sv pv SS Q w) (hb : Below w.heap.size w wA) (hown : wA.ownsRow w.heap.size 9 1 (.slice (some ⟨g2, 0, none⟩) SS.length cap2) SS.length (SS.map strV)) :
    RfAt B rb (.slice (some ⟨g2, 0, none⟩) SS.length cap2) pv SS Q (wA.setCell ⟨rb, 0, none⟩ (.slice (some ⟨g2, 0, none⟩) SS.length cap2)) := by
  have hA := h.below hb
  have hrb := (Array.getElem?_eq_some_iff.1 h.st).1
  refine ⟨h.hB, ?_, ?_, ?_⟩
  · have := Own.heap_setCell_same hA.st 0 (.slice (some ⟨g2, 0, none⟩) SS.length cap2)
    simpa using this
  · refine own_mono (ownsRow_setCell_other hown (own_ne hown fun cur h => ?_) _) (Nat.le_trans h.hB (Nat.le_of_lt hrb))
    rw [hA.st] at h; cases h
  · refine ownsRow_setCell_other hA.pend (own_ne hA.pend fun cur h => ?_) _
    rw [hA.st] at h; cases h
theorem RfAt.setQ {B rb g2 cap2 q : Nat} {pv : Value} {SS : List (List UInt8)} {Q : List (Nat × List UInt8)} {w : World} (h : RfAt B rb (.slice (some ⟨g2, 0, none⟩) SS.length cap2) pv SS Q w) (b : List UInt8) :
    RfAt B rb (.slice (some ⟨g2, 0, none⟩) SS.length cap2) pv (SS.set q b) Q (w.setCell ⟨g2, q, none⟩ (strV b)) := by
  obtain ⟨cur, hg⟩ := own_type h.safe (g := g2) rfl
  refine ⟨h.hB, ?_, ?_, ?_⟩
  · rw [Below.heap_setCell _ _ _ _ (by rintro rfl; have := h.st; rw [hg] at this; cases this)]; exact h.st
  · rw [List.length_set, List.map_set]
    exact own_set h.safe _
  · refine own_same h.pend fun k hk => Below.heap_setCell _ _ _ _ ?_
    rintro rfl
    obtain ⟨c2, hc⟩ := own_type h.pend hk
    rw [hg] at hc; cases hc

theorem rrot_out (B rb : Nat) (sv pv : Value) (SS : List (List UInt8)) (Q : List (Nat × List UInt8)) (at_ : Int) (x : UInt8) (w : World) (h : RfAt B rb sv pv SS Q w) (hm : at_ ≤ 9223372036854775807) (hbad : at_ < 0 ∨ (SS.length : Int) * 64 ≤ at_) :
    Calls Try.prog 27 #[.pointer (some ⟨rb, 0, none⟩), .int .i64 at_, .int .u8 (x.toNat : Int)] w (RErr 1 w) := by
  obtain ⟨A, c, rfl⟩ := own_slice h.safe
  have hc0 : w.cell? ⟨rb, 0, none⟩ = some (.slice A SS.length c) := by rw [cell_of_row w rb 0 _ _ _ h.st]; rfl
  clear h
  by_cases h0 : at_ < 0
  · clear hbad
    go_enter Try.func27, Try.ntmps27
    go_wp2_with fail
    go_ret
    exact ⟨rfl, rfl⟩
  · have h1 : (0 : Int) ≤ at_ := by omega
    have h2 : (SS.length : Int) ≤ at_ / 64 := by omega
    clear hbad
    go_enter Try.func27, Try.ntmps27
    go_wp2_with fail
    go_ret
    exact ⟨rfl, rfl⟩
def RRotPost (B rb : Nat) (pv : Value) (SS : List (List UInt8)) (Q : List (Nat × List UInt8)) (q r : Nat) (x : UInt8) (w : World) (e : Ending) (w' : World) : Prop :=
  ∃ sv', e = .returned (.int .i64 0) ∧ RfAt B rb sv' pv (SS.set q ((SS.getD q []).set r ((SS.getD q []).getD r 0 ^^^ x))) Q w' ∧ TStep refT B w w'
set_option maxRecDepth 100000 in
theorem rrot_in (B rb q r : Nat) (sv pv : Value) (SS : List (List UInt8)) (Q : List (Nat × List UInt8)) (x : UInt8) (w : World) (h : RfAt B rb sv pv SS Q w) (hS : SS.length ≤ 4096) (hq : q < SS.length) (hr : r < 64) (h64 : (SS.getD q []).length = 64) :
    Calls Try.prog 27 #[.pointer (some ⟨rb, 0, none⟩), .int .i64 ((q * 64 + r : Nat) : Int), .int .u8 (x.toNat : Int)] w (RRotPost B rb pv SS Q q r x w) := by
  obtain ⟨g, cap, rfl, hcap, _, hcell, _⟩ := SS_cell h.safe q hq
  have hrb : rb < w.heap.size := (Array.getElem?_eq_some_iff.1 h.st).1
  have hc0 : w.cell? ⟨rb, 0, none⟩ = some (.slice (some ⟨g, 0, none⟩) SS.length cap) := by rw [cell_of_row w rb 0 _ _ _ h.st]; rfl
  generalize hl : SS.getD q [] = l at *
  obtain ⟨c1, W1, hr1, hc1, hrd1, hb1, hf1⟩ := conv_str l w
  have hz : W1.cell? ⟨w.heap.size, r, none⟩ = some (.int .u8 ((l.getD r 0).toNat : Int)) := by
    rcases hrd1 with ⟨h0, _⟩ | ⟨a, c', hv, hc⟩
    · cases h0
    · cases hv
      have := hc r (.int .u8 ((l.getD r 0).toNat : Int)) (by simp [u8s, List.getD_eq_getElem?_getD, List.getElem?_eq_getElem (show r < l.length by omega)])
      rwa [Addr.add_lit, Nat.zero_add] at this
  have hfz := hf1 r (by omega)
  have hx : bits .xor .u8 ((l.getD r 0).toNat : Int) (x.toNat : Int) = ((l.getD r 0 ^^^ x).toNat : Int) := by
    rw [u8_xor_nat _ _ (UInt8.toNat_lt _) (UInt8.toNat_lt _), UInt8.toNat_xor]
  generalize hy : (l.getD r 0 ^^^ x) = y at *
  obtain ⟨W2, hW2⟩ : ∃ W2, W2 = W1.setCell ⟨w.heap.size, r, none⟩ (.int .u8 (y.toNat : Int)) := ⟨_, rfl⟩
  have hb2 : Below w.heap.size w W2 := hW2 ▸ hb1.setCell (Nat.le_refl _) _
  have hrd2 : ReadsB W2 (.slice (some ⟨w.heap.size, 0, none⟩) l.length c1) (l.set r y) := hW2 ▸ hrd1.set (by omega) y
  have hR2 := h.below hb2
  obtain ⟨g2, cap2, wA, hap, hownA, hbA⟩ := own_copyS B g cap SS W2 hR2.safe hS (by omega)
  have hRA := hR2.below hbA
  have hR3 := hR2.setS hbA hownA
  obtain ⟨W3, hW3⟩ : ∃ W3, W3 = wA.setCell ⟨rb, 0, none⟩ (.slice (some ⟨g2, 0, none⟩) SS.length cap2) := ⟨_, rfl⟩
  rw [← hW3] at hR3
  have hbW : w.heap.size ≤ W2.heap.size := hb2.size
  have hsz1 : w.heap.size < W2.heap.size := by
    have hlt := World.block_lt_of_cell? W1 _ hz
    rw [hW2]; simpa [World.setCell] using hlt
  have hrd3 : ReadsB W3 (.slice (some ⟨w.heap.size, 0, none⟩) l.length c1) (l.set r y) := by
    have h1 := hrd2.below hbA
    rcases h1 with ⟨h0, _⟩ | ⟨a, c', hv, hc⟩
    · cases h0
    · rw [List.length_set] at hv
      cases hv
      refine .inr ⟨⟨w.heap.size, 0, none⟩, c1, by rw [List.length_set], fun j u hu => ?_⟩
      rw [hW3, World.cell?_setCell_other _ _ _ _ (by rw [Addr.add_lit]; intro e; have := congrArg Addr.block e; simp at this; omega)]
      exact hc j u hu
  have hcv : (convert 23 9 (.slice (some ⟨w.heap.size, 0, none⟩) l.length c1)).run Try.prog W3.drew = .ok (.string ⟨(l.set r y).toArray⟩) W3.drew := by
    have := conv_reads (w := W3.drew) (hrd3.below ⟨rfl, rfl, rfl, Nat.le_refl _, fun _ _ => rfl⟩)
    exact this
  have hfr : wA.frozen? ⟨rb, 0, none⟩ = false := frozen_of_block hRA.st 0
  have hcA : wA.cell? ⟨rb, 0, none⟩ = some (.slice (some ⟨g, 0, none⟩) SS.length cap) := by rw [cell_of_row wA rb 0 _ _ _ hRA.st]; rfl
  have hcB : (W2.alloc (.cells #[] 9)).cell? ⟨rb, 0, none⟩ = some (.slice (some ⟨g, 0, none⟩) SS.length cap) := by
    rw [cell_of_row _ rb 0 _ _ _ ((hR2.below ((Below.refl _ _).alloc (Nat.le_refl _) _)).st)]; rfl
  have hc3 : W3.cell? ⟨rb, 0, none⟩ = some (.slice (some ⟨g2, 0, none⟩) SS.length cap2) := by rw [cell_of_row W3 rb 0 _ _ _ hR3.st]; rfl
  obtain ⟨g2', cap2', hvv, hcap2, _, hcell3, hfr3⟩ := SS_cell hR3.safe q hq
  cases hvv
  have HP : Hid (RRotPost B rb pv SS Q q r x w (.returned (.int .i64 0)) (W3.drew.setCell ⟨g2, q, none⟩ (strV (l.set r y)))) := by
    have hR3d : RfAt B rb (.slice (some ⟨g2, 0, none⟩) SS.length cap2) pv SS Q W3.drew := hR3.below ⟨rfl, rfl, rfl, Nat.le_refl _, fun _ _ => rfl⟩
    refine ⟨.slice (some ⟨g2, 0, none⟩) SS.length cap2, rfl, ?_, ?_⟩
    · rw [hl, hy]
      exact hR3d.setQ (q := q) (l.set r y)
    · have hg2 := (hownA.lt g2 rfl).1
      have hBw : B ≤ w.heap.size := Nat.le_trans h.hB (Nat.le_of_lt hrb)
      refine TStep.of_chg (ks := [rb, g2]) ?_ hBw ?_
      · have c2 : Chg [rb, g2] w W2 := Chg.of_below hb2
        have cA : Chg [rb, g2] w wA := c2.trans (Chg.of_below (ks := []) hbA) (fun x hx => by cases hx)
        have c3 : Chg [rb, g2] w W3 := hW3 ▸ cA.trans (Chg.setCell (ks := [rb]) _ (List.mem_cons_self ..)) (fun x hx _ => by simp at hx; simp [hx])
        exact c3.drew.trans (Chg.setCell (ks := [g2]) _ (List.mem_cons_self ..)) (fun x hx _ => by simp at hx; simp [hx])
      · intro k hk
        simp only [List.mem_cons, List.mem_nil_iff, or_false] at hk
        rcases hk with rfl | rfl
        · exact ⟨h.hB, fun _ => ⟨_, _, _, h.st, by simp [refT]⟩⟩
        · exact ⟨by omega, fun hlt => by omega⟩
  have e0 : (0 : Int) ≤ ((q * 64 + r : Nat) : Int) := by omega
  have e1 : ((q * 64 + r : Nat) : Int) / 64 = (q : Int) := by omega
  have e2 : ((q * 64 + r : Nat) : Int) % 64 = (r : Int) := by omega
  have e3 : ((q * 64 + r : Nat) : Int) ≤ 9223372036854775807 := by omega
  have e4 : (q : Int) < (SS.length : Int) := by omega
  have e5 : ¬ (SS.length : Int) ≤ (q : Int) := by omega
  have e6 : (r : Int) < (l.length : Int) := by omega
  have e7 : (0 : Int) ≤ (q : Int) := by omega
  have e8 : (0 : Int) ≤ (r : Int) := by omega
  generalize ((q * 64 + r : Nat) : Int) = at_ at *
  generalize l.getD r 0 = z at *
  have hcell3' : W3.drew.cell? ⟨g2, q, none⟩ = some (strV (SS.getD q [])) := hcell3
  have hcell : w.cell? ⟨g, q, none⟩ = some (strV l) := hcell
  clear hl hy h hrd1 hrd2 hrd3 hR2 hRA hR3 hownA hb1 hb2 hbA hf1 hS hq hr h64 hcap hcap2 hc1 hbW hsz1 hrb
  have hszz : W2.heap.size = W1.heap.size := by rw [hW2]; simp [World.setCell]
  rw [hszz] at hap
  clear hszz
  subst hW3
  subst hW2
  go_enter Try.func27, Try.ntmps27
  go_wp2_with (at_builtin; refine wpList_append_run rfl rfl rfl rfl hap ?_)
  go_region
  all_goals
    go_wp2_with fail
    go_ret
    exact HP.out
end Go.Proofs.Ytjlbamjebidhgaa
