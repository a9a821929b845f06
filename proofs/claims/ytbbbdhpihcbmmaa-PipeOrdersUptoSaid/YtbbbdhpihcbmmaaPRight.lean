/- The walk of Right, of one call begun and ended. -/
import Derived.Test.YtbbbdhpihcbmmaaPOrd
import Derived.Maps.RangeRun
namespace Go.Proofs.Ytbbbdhpihcbmmaa
open Go.RowKit Own
open Go.ChangeMaps (setBlock)

set_option maxHeartbeats 8000000 in
theorem right_two (v : Value) (x0 x1 : EvIn) (w : World) (hv : ReadsEvs w v [x0, x1]) (hok0 : EvOk x0) (hok1 : EvOk x1) (h0 : x0.done = false) (h1 : x1.done = true) (hu : x1.unk = false) (hk : x1.kc = x0.kc ∧ x1.ks = x0.ks) (hc : chkH [x0, x1] = 0) :
    Calls Try.prog 12 #[v] w fun e w' => e = .returned (.tuple #[.bool (sameB (repOf (doR x0.call false [])) x1.rep), .int .i64 0]) ∧ Below w.heap.size w w' := by
  have hchk := chk_any v [x0, x1] w hv (by intro x hx; simp at hx; rcases hx with rfl | rfl <;> assumption) (by simp)
  rw [hc] at hchk
  have HSp : Hid (∀ w', Below w.heap.size w w' → Calls Try.prog 26 #[v] w' fun e w'' => e = .returned (.map (some w'.heap.size)) ∧ SpanPost x0 x1 w' w'.heap.size w'') := fun w' hb => spans_two v x0 x1 w' (hv.below hb) hok0 h0 h1 hu hk
  have HO := Lib.hid (And.intro hok0.call hok1.rd)
  have HChk := Lib.hid hchk
  obtain ⟨Av, cv, hav⟩ := hv.slice
  have hl2 : [x0, x1].length = 2 := rfl
  rw [hl2] at hav
  subst hav
  clear hv hok0 hok1 h0 h1 hu hk hc hchk hl2
  go_enter Try.func12, Try.ntmps12
  go_wp2_with (first
    | (go_at_call 25; (with_reducible refine HChk.out.mono ?_); rintro e w1 ⟨rfl, hb1⟩; have HB1 := Lib.hid hb1; clear hb1)
    | (go_at_call 26; (with_reducible refine (HSp.out w1 HB1.out).mono ?_); rintro e w2 ⟨rfl, hsp⟩; have HSP := Lib.hid hsp; obtain ⟨g, cap, dv, rv, hm, hrow⟩ := hsp; have HRow := Lib.hid hrow; have HM := Lib.hid hm; have hrg := run_range_map (P := Try.prog) w2 61 9 63 _ _ _ Try.underlying61 hm; clear hrow hm))
  clear hrg
  obtain ⟨wI, hwI⟩ : ∃ wI, wI = w2.alloc (.mapIter (some w1.heap.size) 1 #[] 1) := ⟨_, rfl⟩
  have hbI : Below w2.heap.size w2 wI := by rw [hwI]; exact (Below.refl _ _).alloc (Nat.le_refl _) _
  have hr0 : wI.heap[w2.heap.size]? = some (.mapIter (some w1.heap.size) 1 #[] 1) := by rw [hwI]; exact heap_alloc_new w2 _
  rw [← hwI]
  have hm0 := (hbI.block _ (Array.getElem?_eq_some_iff.1 HM.out).1).trans HM.out
  have HI := Lib.hid (And.intro hbI (And.intro hr0 hm0))
  clear hbI hr0 hm0 hwI
  go_loopw [6] (fun u wr => (u = undef ∧ wr = wI) ∨ ((∃ A n c, u = .slice A n c) ∧ Hid (sameB (repOf (doR x0.call false [])) x1.rep = true ∧ Below w.heap.size w wr ∧ wr.heap[w2.heap.size]? = some (.mapIter (some w1.heap.size) 1 #[0] 1) ∧ wr.heap[w1.heap.size]? = some (.map #[⟨.string x0.call.s, .slice (some ⟨g, 0, none⟩) 1 cap, 0⟩] 1)))) (fun u _ => match u with | .slice _ _ _ => 0 | _ => 1)
  case atStart => exact .inl ⟨rfl, rfl⟩
  case round =>
    rcases hrel with ⟨rfl, hwr⟩ | ⟨⟨uA, un, uc, rfl⟩, HE⟩
    · obtain ⟨wL, rfl⟩ : ∃ wo : World, wo = wr := ⟨_, rfl⟩
      have hbI := HI.out.1
      have law := run_next_at (P := Try.prog) wL 0 w2.heap.size w1.heap.size 1 1 #[] _ 1 (by rw [hwr]; exact HI.out.2.1) (by rw [hwr]; exact HI.out.2.2) (by simp) (Nat.le_refl _)
      rw [← hwr] at hbI
      rcases law with ⟨h0, _⟩ | ⟨e, he, wD, hal, hrun⟩
      · simp [leftOf] at h0
      · obtain rfl : e = ⟨.string x0.call.s, .slice (some ⟨g, 0, none⟩) 1 cap, 0⟩ := by simpa [leftOf] using he
        have hnx : ∀ ty, (Instr.next (.pointer (some ⟨w2.heap.size, 0, none⟩)) false ty).run Try.prog wL = _ := fun _ => hrun
        dsimp only at hnx
        obtain ⟨wN, hwN⟩ : ∃ wN, wN = setBlock wD w2.heap.size (.mapIter (some w1.heap.size) 1 ((#[] : Array Nat).push 0) 1) := ⟨_, rfl⟩
        rw [← hwN] at hnx
        have hbD : Below w2.heap.size w2 wD := by
          rcases hal with rfl | rfl
          · exact hbI
          · exact hbI.drew
        have hrD : wD.heap[w2.heap.size]? = some (.mapIter (some w1.heap.size) 1 #[] 1) := by
          rcases hal with rfl | rfl
          · rw [hwr]; exact HI.out.2.1
          · rw [hwr]; exact HI.out.2.1
        have hbN : Below w2.heap.size w2 wN := by
          rw [hwN]
          exact hbD.trans ((chg_setBlock _ _ wD).below hbD.size (by simp))
        have hrN : wN.heap[w2.heap.size]? = some (.mapIter (some w1.heap.size) 1 #[0] 1) := by
          rw [hwN]
          simp [setBlock, (Array.getElem?_eq_some_iff.1 hrD).1]
        have hmN := (hbN.block _ (Array.getElem?_eq_some_iff.1 HM.out).1).trans HM.out
        have hen := run_entry_at (P := Try.prog) wN w2.heap.size w1.heap.size 1 #[] _ 1 ⟨.string x0.call.s, .slice (some ⟨g, 0, none⟩) 1 cap, 0⟩ hrN hmN (by simp) (by simp)
        dsimp only at hen
        have hor := orders_one g cap x0.call HO.out.1 dv rv x1.rep HO.out.2 wN w1.heap.size (own_below HRow.out.1 hbN) (HRow.out.2.1.below hbN) (HRow.out.2.2.1.below hbN)
        have hb12 := HB1.out.trans (HRow.out.2.2.2.mono HB1.out.size)
        have HN := Lib.hid (And.intro (hb12.trans (hbN.mono hb12.size)) (And.intro hrN hmN))
        have HOr := Lib.hid hor
        clear hb12 hor hrN hmN hbN hrD hbD hwN hal hrun he hbI hwr
        cases hS : sameB (repOf (doR x0.call false [])) x1.rep with
        | true =>
          rw [hS] at HOr
          have HS := Lib.hid hS
          clear hS
          go_wp2_with (go_at_call 27; (with_reducible refine HOr.out.mono ?_); rintro e w5 ⟨rfl, hb5⟩; have HB5 := Lib.hid hb5; clear hb5)
          go_roundw
          case rel =>
            refine .inr ⟨⟨_, _, _, rfl⟩, Lib.hid ⟨by first | exact trivial | exact HS.out, HN.out.1.trans (HB5.out.mono HN.out.1.size), ?_, ?_⟩⟩
            · exact (HB5.out.block _ (Array.getElem?_eq_some_iff.1 HN.out.2.1).1).trans HN.out.2.1
            · exact (HB5.out.block _ (Array.getElem?_eq_some_iff.1 HN.out.2.2).1).trans HN.out.2.2
          case measure => simp [undef]
        | false =>
          rw [hS] at HOr
          have HS := Lib.hid hS
          clear hS
          go_wp2_with (go_at_call 27; (with_reducible refine HOr.out.mono ?_); rintro e w5 ⟨rfl, hb5⟩; have HB5 := Lib.hid hb5; clear hb5)
          go_ret2
          exact ⟨by simp [HS.out], HN.out.1.trans (HB5.out.mono HN.out.1.size)⟩
    · obtain ⟨wL, rfl⟩ : ∃ wo : World, wo = wr := ⟨_, rfl⟩
      have law := run_next_at (P := Try.prog) wL 0 w2.heap.size w1.heap.size 1 1 #[0] _ 1 HE.out.2.2.1 HE.out.2.2.2 (by simp) (Nat.le_refl _)
      rcases law with ⟨h0, hrun⟩ | ⟨e, he, wD, hal, hrun⟩
      · have hnx : ∀ ty, (Instr.next (.pointer (some ⟨w2.heap.size, 0, none⟩)) false ty).run Try.prog wL = _ := fun _ => hrun
        clear h0 hrun
        go_wp2_with fail
        go_ret2
        exact ⟨by simp [HE.out.1], HE.out.2.1⟩
      · simp [leftOf] at he
end Go.Proofs.Ytbbbdhpihcbmmaa
