/- The walk of Right, of any history. -/
import Derived.Test.YtbbbdhpihcbmmaaPRt0
namespace Go.Proofs.Ytbbbdhpihcbmmaa
open Go.RowKit Own
open Go.ChangeMaps (setBlock)

theorem nodup_inj {α β : Type} (f : α → β) : ∀ {l : List α}, (l.map f).Nodup → ∀ {x y : α}, x ∈ l → y ∈ l → f x = f y → x = y
  | [], _, _, _, hx, _, _ => by cases hx
  | a :: l, h, x, y, hx, hy, e => by
    rw [List.map_cons, List.nodup_cons] at h
    rcases List.mem_cons.1 hx with hx | hx <;> rcases List.mem_cons.1 hy with hy | hy
    · rw [hx, hy]
    · exact absurd (by rw [← hx, e]; exact List.mem_map_of_mem hy) h.1
    · exact absurd (by rw [← hy, ← e]; exact List.mem_map_of_mem hx) h.1
    · exact nodup_inj f h.2 hx hy e

open Classical in
set_option maxHeartbeats 8000000 in
theorem right_any (v : Value) (xs : List EvIn) (w : World) (hv : ReadsEvs w v xs) (hok : ∀ x ∈ xs, EvOk x) (hn : xs.length ≤ 140737488351232) :
    Calls Try.prog 12 #[v] w fun e w' => e = .returned (.tuple #[.bool (decide (chkH xs = 0 ∧ RightB xs)), .int .i64 (chkH xs)]) ∧ Below w.heap.size w w' := by
  have hchk := chk_any v xs w hv hok hn
  have HChk := Lib.hid hchk
  obtain ⟨Av, cv, hav⟩ := hv.slice
  by_cases hc : chkH xs = 0
  · have hfew := chk_few hc
    have HSp : Hid (∀ w', Below w.heap.size w w' → Calls Try.prog 26 #[v] w' fun e w'' => e = .returned (.map (some w'.heap.size)) ∧ SpansPost xs w' w'') := fun w' hb => spans_any v xs w' (hv.below hb) hok hfew.1
    have HO : Hid (∀ s, (upTo xs s xs.length).length ≤ 8 ∧ ∀ p ∈ upTo xs s xs.length, SpOk p) := fun s => ⟨hfew.2 s, fun p hp => upTo_ok hok hfew.1 hp⟩
    have HRes : Hid (∀ b : Bool, (b = true ↔ RightB xs) → decide ((0 : Int) = 0 ∧ RightB xs) = b) := fun b hb => by
      cases b
      · simp only [decide_eq_false_iff_not, true_and]; intro h; cases hb.2 h
      · simp only [decide_eq_true_iff, true_and]; exact hb.1 rfl
    have HC0 : Hid (chkH xs = 0) := hc
    rw [hc] at HChk
    rw [hc]
    subst hav
    generalize decide ((0 : Int) = 0 ∧ RightB xs) = ans at *
    clear hv hok hn hchk hfew hc
    go_enter Try.func12, Try.ntmps12
    go_wp2_with (first
      | (go_at_call 25; (with_reducible refine HChk.out.mono ?_); rintro e w1 ⟨rfl, hb1⟩; have HB1 := Lib.hid hb1; clear hb1)
      | (go_at_call 26; (with_reducible refine (HSp.out w1 HB1.out).mono ?_); rintro e w2 ⟨rfl, nn, f, hgi⟩; have HG := Lib.hid hgi; obtain ⟨es, clock, hm, hst, _, _, hf⟩ := hgi.map; have hrg := run_range_map (P := Try.prog) w2 61 9 63 _ _ _ Try.underlying61 hm; have HM := Lib.hid (And.intro hm (And.intro hst hf)); clear hgi hm hst hf))
    clear hrg
    have HRi := Lib.hid (RI.start HM.out.1 HM.out.2.1)
    obtain ⟨wI, hwI⟩ : ∃ wI, wI = w2.alloc (.mapIter (some w1.heap.size) clock #[] clock) := ⟨_, rfl⟩
    have HBI : Hid (Below w2.heap.size w2 wI) := by show Below _ _ _; rw [hwI]; exact (Below.refl _ _).alloc (Nat.le_refl _) _
    rw [← hwI] at HRi
    rw [← hwI]
    clear hwI
    have HLt : Hid (w1.heap.size < w2.heap.size) := (Array.getElem?_eq_some_iff.1 HM.out.1).1
    have HB12 : Hid (Below w.heap.size w w2) := HB1.out.trans (HG.out.bel.mono HB1.out.size)
    -- what an entry is
    have HE : Hid (∀ e ∈ es.toList, ∃ s LV g cap, e.key = .string s ∧ e.val = .slice (some ⟨g, 0, none⟩) LV.length cap ∧ LV.map Prod.fst = upTo xs s xs.length ∧ RowL w2 w1.heap.size g cap LV) := fun e he => by
      have hfe := (HM.out.2.2 e.key e.val).2 ⟨e, he, rfl, rfl⟩
      obtain ⟨s, hs⟩ := HG.out.keys _ _ hfe
      rw [hs] at hfe
      obtain ⟨LV, g, cap, h1, h2, _, h4, h5⟩ := HG.out.yes s _ hfe
      exact ⟨s, LV, g, cap, hs, h1, h2, by rw [← h1]; exact h4, fun p hp => (h5 p hp).kept (Kept.of_below HG.out.bel)⟩
    go_loopw [6] (fun _ wr => ∃ (seen : Array Nat), Hid (RI w2.heap.size w1.heap.size es clock seen wr ∧ Below w2.heap.size w2 wr ∧ ∀ e ∈ es.toList, e.born ∈ seen → ∀ s, e.key = .string s → Goes (upTo xs s xs.length) 0 false [])) (fun _ wr => itLeft w2.heap.size w1.heap.size wr)
    case atStart => exact ⟨#[], HRi.out, HBI.out, fun e _ he => by simp at he⟩
    case round =>
      obtain ⟨seen, HR⟩ := hrel
      obtain ⟨wL, rfl⟩ : ∃ wo : World, wo = wr := ⟨_, rfl⟩
      rcases HR.out.1.next (P := Try.prog) (by have := HLt.out; omega) with ⟨h0, hnx⟩ | ⟨e, he, w3, hnx, hri3, hch, hen, hmem⟩
      · have HFin : Hid (ans = true) := HRes.out true (by
          simp only [true_iff]
          intro s
          cases hfs : f (.string s) with
          | none => rw [HG.out.no s hfs]; exact goes_nil _ _ _
          | some u =>
            obtain ⟨e, he, hek, _⟩ := (HM.out.2.2 (.string s) u).1 hfs
            refine HR.out.2.2 e he ?_ s hek
            by_cases hin : e.born ∈ seen
            · exact hin
            · exfalso
              have : e ∈ (leftOf es seen).toList := by
                unfold leftOf
                rw [Array.toList_filter]
                exact List.mem_filter.2 ⟨he, by simpa using hin⟩
              have h9 : (leftOf es seen).toList.length = 0 := by rw [Array.length_toList]; exact h0
              rw [List.length_eq_zero_iff.1 h9] at this
              cases this)
        have HB := Lib.hid (HB12.out.trans (HR.out.2.1.mono HB12.out.size))
        clear h0
        go_wp2_with fail
        go_ret2
        exact ⟨by simp [HFin.out], HB.out⟩
      · obtain ⟨s, LV, g, cap, hek, hev, hsp, hrow⟩ := HE.out e hmem
        have hb3 : Below w2.heap.size w2 w3 := HR.out.2.1.trans (hch.below HR.out.2.1.size (by simp))
        have hrow3 : RowL w3 w1.heap.size g cap LV := ⟨own_below hrow.1 hb3, fun p hp => (hrow.2 p hp).kept (Kept.of_below hb3)⟩
        have hlen : LV.length = (upTo xs s xs.length).length := by rw [← hsp, List.length_map]
        have hor := orders_any g cap LV (by rw [hlen]; exact (HO.out s).1) (fun p hp => (HO.out s).2 _ (by rw [← hsp]; exact List.mem_map_of_mem hp)) w3 w1.heap.size hrow3
        rw [hsp] at hor
        have HOr := Lib.hid hor
        have HMs : Hid (itLeft w2.heap.size w1.heap.size wL = (leftOf es seen).size ∧ (leftOf es (seen.push e.born)).size < (leftOf es seen).size) := ⟨HR.out.1.left, left_push es seen e he⟩
        rw [hek, hev] at hnx hen
        have HN := Lib.hid (And.intro hb3 (And.intro hri3 (HB12.out.trans (hb3.mono HB12.out.size))))
        have HK := Lib.hid (And.intro hek hmem)
        have HUn : Hid (∀ e' ∈ es.toList, e'.born = e.born → e' = e) := fun e' he' hb => by
          exact nodup_inj MapEntry.born ((Go.MapKept.stamped_iff es clock).1 HM.out.2.1).2.1 he' hmem hb
        clear hrow hrow3 hlen hor hb3 hri3 hch he hmem hek hev hsp
        by_cases hG : Goes (upTo xs s xs.length) 0 false []
        · rw [decide_eq_true hG] at HOr
          have HS := Lib.hid hG
          clear hG
          go_wp2_with (go_at_call 27; (with_reducible refine HOr.out.mono ?_); rintro e5 w5 ⟨rfl, hb5⟩; have HB5 := Lib.hid hb5; clear hb5)
          go_roundw
          case rel =>
            refine ⟨seen.push e.born, HN.out.2.1.go HB5.out, HN.out.1.trans (HB5.out.mono HN.out.1.size), fun e' he' hb' s' hs' => ?_⟩
            rcases Array.mem_push.1 hb' with hb' | hb'
            · exact HR.out.2.2 e' he' hb' s' hs'
            · have h9 := HUn.out e' he' hb'
              rw [h9, HK.out.1] at hs'
              cases hs'
              exact HS.out
          case measure => rw [HMs.out.1, (HN.out.2.1.go HB5.out).left]; exact HMs.out.2
        · rw [decide_eq_false hG] at HOr
          have HFin : Hid (ans = false) := HRes.out false ⟨fun h => (by cases h), fun h => absurd (h s) hG⟩
          clear hG
          go_wp2_with (go_at_call 27; (with_reducible refine HOr.out.mono ?_); rintro e5 w5 ⟨rfl, hb5⟩; have HB5 := Lib.hid hb5; clear hb5)
          go_ret2
          exact ⟨by simp [HFin.out], HN.out.2.2.trans (HB5.out.mono HN.out.2.2.size)⟩
  · have hans : decide (chkH xs = 0 ∧ RightB xs) = false := decide_eq_false fun h => hc h.1
    rw [hans]
    subst hav
    generalize chkH xs = c at *
    clear hv hok hn hchk hans
    go_enter Try.func12, Try.ntmps12
    go_wp2_with (go_at_call 25; (with_reducible refine HChk.out.mono ?_); rintro e w1 ⟨rfl, hb1⟩; have HB1 := Lib.hid hb1; clear hb1)
    go_ret2
    exact ⟨rfl, HB1.out⟩
end Go.Proofs.Ytbbbdhpihcbmmaa
