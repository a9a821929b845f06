/- A history that may be: how many calls of one name. No program in sight (but for its name). The walk of Right, of any history. -/
import Derived.Test.YtbbbdhpihcbmmaaGSp
import Derived.Test.YtbbbdhpihcbmmaaGBase
namespace Go.Proofs.Ytbbbdhpihcbmmaa
open Go.RowKit Own

theorem cntN_cons (N : List ByteArray) (t s : ByteArray) : cntN (t :: N) s = cntN N s + if s = t then 1 else 0 := by
  unfold cntN
  by_cases e : s = t
  · subst e; simp
  · rw [if_neg e, List.filter_cons_of_neg (by simpa using fun h : t = s => e h.symm)]; omega
theorem upTo_succ_len {xs : List EvIn} {j : Nat} (hj : j < xs.length) (s : ByteArray) : (upTo xs s (j + 1)).length = (upTo xs s j).length + if (xs[j]'hj).done = false ∧ s = (xs[j]'hj).call.s then 1 else 0 := by
  simp only [upTo, List.getElem?_eq_getElem hj, List.length_append]
  split <;> simp
theorem run_most {xs : List EvIn} : ∀ (m j : Nat) (st st' : CS), xs.length - j = m → csRun (xs.drop j) st = some st' → (∀ s, cntN st.ns s = (upTo xs s j).length) → (∀ s, cntN st.ns s ≤ st.most) → ∀ s, (upTo xs s xs.length).length ≤ st'.most := by
  intro m
  induction m with
  | zero =>
    intro j st st' hm hrun h1 h2 s
    have hj : xs.length ≤ j := by omega
    rw [List.drop_eq_nil_of_le hj] at hrun
    cases hrun
    have hmono : ∀ d, (upTo xs s xs.length).length = (upTo xs s (xs.length + d)).length := by
      intro d
      induction d with
      | zero => rfl
      | succ d ih =>
        rw [ih, show xs.length + (d + 1) = (xs.length + d) + 1 from rfl]
        simp only [upTo, List.getElem?_eq_none (show xs.length ≤ xs.length + d by omega), List.append_nil]
    have := hmono (j - xs.length)
    rw [show xs.length + (j - xs.length) = j by omega] at this
    rw [this, ← h1 s]; exact h2 s
  | succ m ih =>
    intro j st st' hm hrun h1 h2 s
    have hj : j < xs.length := by omega
    rw [List.drop_eq_getElem_cons hj, csRun] at hrun
    split at hrun
    · refine ih (j + 1) _ st' (by omega) hrun (fun t => ?_) (fun t => ?_) s
      · rw [upTo_succ_len hj, ← h1 t]
        unfold csStep
        split
        · rename_i hd; simp [hd]
        · rename_i hd
          have hd' : (xs[j]'hj).done = false := by simpa using hd
          simp only [cntN_cons, hd', true_and]
      · unfold csStep
        split
        · exact h2 t
        · simp only []
          by_cases e : t = (xs[j]'hj).call.s
          · subst e; omega
          · rw [cntN_cons, if_neg e]; have := h2 t; omega
    · cases hrun
theorem chk_few {xs : List EvIn} (h : chkH xs = 0) : xs.length ≤ 64 ∧ ∀ s, (upTo xs s xs.length).length ≤ 8 := by
  unfold chkH at h
  split at h
  · cases h
  · rename_i h64
    split at h
    · cases h
    · rename_i st hst
      split at h
      · cases h
      · rename_i h8
        refine ⟨Nat.le_of_not_lt h64, fun s => ?_⟩
        have := run_most xs.length 0 _ st (Nat.sub_zero _) (by simpa using hst) (fun _ => rfl) (fun _ => Nat.le_refl _) s
        omega
theorem spanOf_ok {xs : List EvIn} (hok : ∀ x ∈ xs, EvOk x) (hn : xs.length ≤ 64) {j : Nat} (hj : j < xs.length) : SpOk (spanOf xs (xs[j]'hj) j) := by
  have hx := hok _ (List.getElem_mem hj)
  unfold spanOf
  split
  · rename_i h
    split
    · exact ⟨hx.call, Nat.zero_le _, by simp only []; omega, by simp only []; omega⟩
    · exact ⟨hx.call, (hok _ (List.getElem_mem h)).rd, by simp only []; omega, by simp only []; omega⟩
  · exact ⟨hx.call, Nat.zero_le _, by simp only []; omega, by simp only []; omega⟩
theorem upTo_mem {xs : List EvIn} {s : ByteArray} {p : SpIn} : ∀ {j : Nat}, p ∈ upTo xs s j → ∃ (i : Nat) (hi : i < xs.length), i < j ∧ (xs[i]'hi).done = false ∧ s = (xs[i]'hi).call.s ∧ p = spanOf xs (xs[i]'hi) i
  | 0, h => by cases h
  | j + 1, h => by
    simp only [upTo] at h
    rcases List.mem_append.1 h with h | h
    · obtain ⟨i, hi, hij, r⟩ := upTo_mem h
      exact ⟨i, hi, by omega, r⟩
    · by_cases hj : j < xs.length
      · rw [List.getElem?_eq_getElem hj] at h
        simp only [] at h
        split at h
        · rename_i hc
          rw [List.mem_singleton] at h
          exact ⟨j, hj, by omega, hc.1, hc.2, h⟩
        · cases h
      · rw [List.getElem?_eq_none (by omega)] at h; cases h
theorem upTo_ok {xs : List EvIn} (hok : ∀ x ∈ xs, EvOk x) (hn : xs.length ≤ 64) {s : ByteArray} {j : Nat} {p : SpIn} (h : p ∈ upTo xs s j) : SpOk p := by
  obtain ⟨i, hi, _, _, _, rfl⟩ := upTo_mem h
  exact spanOf_ok hok hn hi
/-- every name's calls can be put in order -/
def RightB (xs : List EvIn) : Prop := ∀ s, Goes (upTo xs s xs.length) 0 false []
theorem goes_nil (D : Nat) (has : Bool) (b : List UInt8) : Goes [] D has b := Goes.fin D has b (fun j hj => by cases hj)
end Go.Proofs.Ytbbbdhpihcbmmaa
namespace Go.Proofs.Ytbbbdhpihcbmmaa
open Go.RowKit Own
open Go.ChangeMaps (setBlock)

theorem nodup_inj {α β : Type} (f : α → β) : ∀ {l : List α}, (l.map f).Nodup → ∀ {x y : α}, x ∈ l → y ∈ l → f x = f y → x = y
  | [], _, _, _, hx, _, _ => by cases hx
  | a :: l, h, x, y, hx, hy, e => by
    rw [List.map_cons, List.nodup_cons] at h
    rcases List.mem_cons.1 hx with hx | hx <;> rcases List.mem_cons.1 hy with hy | hy
    · rw [hx, hy]
    · exact absurd (by rw [← hx, e]; exact List.mem_map_of_mem hy) h.1
    · exact absurd (by rw [← hy, ← e]; exact List.mem_map_of_mem hx) h.1
    · exact nodup_inj f h.2 hx hy e

open Classical in
set_option maxHeartbeats 8000000 in
theorem right_any (v : Value) (xs : List EvIn) (w : World) (hv : ReadsEvs w v xs) (hok : ∀ x ∈ xs, EvOk x) (hn : xs.length ≤ 140737488351232) :
    Calls Try.prog 12 #[v] w fun e w' => e = .returned (.tuple #[.bool (decide (chkH xs = 0 ∧ RightB xs)), .int .i64 (chkH xs)]) ∧ Below w.heap.size w w' := by
  have hchk := chk_any v xs w hv hok hn
  have HChk := Lib.hid hchk
  obtain ⟨Av, cv, hav⟩ := hv.slice
  by_cases hc : chkH xs = 0
  · have hfew := chk_few hc
    have HSp : Hid (∀ w', Below w.heap.size w w' → Calls Try.prog 26 #[v] w' fun e w'' => e = .returned (.map (some w'.heap.size)) ∧ SpansPost xs w' w'') := fun w' hb => spans_any v xs w' (hv.below hb) hok hfew.1
    have HO : Hid (∀ s, (upTo xs s xs.length).length ≤ 8 ∧ ∀ p ∈ upTo xs s xs.length, SpOk p) := fun s => ⟨hfew.2 s, fun p hp => upTo_ok hok hfew.1 hp⟩
    have HRes : Hid (∀ b : Bool, (b = true ↔ RightB xs) → decide ((0 : Int) = 0 ∧ RightB xs) = b) := fun b hb => by
      cases b
      · simp only [decide_eq_false_iff_not, true_and]; intro h; cases hb.2 h
      · simp only [decide_eq_true_iff, true_and]; exact hb.1 rfl
    have HC0 : Hid (chkH xs = 0) := hc
    rw [hc] at HChk
    rw [hc]
    subst hav
    generalize decide ((0 : Int) = 0 ∧ RightB xs) = ans at *
    clear hv hok hn hchk hfew hc
    go_enter Try.func12, Try.ntmps12
    go_wp2_with (first
      | (go_at_call 25; (with_reducible refine HChk.out.mono ?_); rintro e w1 ⟨rfl, hb1⟩; have HB1 := Lib.hid hb1; clear hb1)
      | (go_at_call 26; (with_reducible refine (HSp.out w1 HB1.out).mono ?_); rintro e w2 ⟨rfl, nn, f, hgi⟩; have HG := Lib.hid hgi; obtain ⟨es, clock, hm, hst, _, _, hf⟩ := hgi.map; have hrg := run_range_map (P := Try.prog) w2 61 9 63 _ _ _ Try.underlying61 hm; have HM := Lib.hid (And.intro hm (And.intro hst hf)); clear hgi hm hst hf))
    clear hrg
    have HRi := Lib.hid (RI.start HM.out.1 HM.out.2.1)
    obtain ⟨wI, hwI⟩ : ∃ wI, wI = w2.alloc (.mapIter (some w1.heap.size) clock #[] clock) := ⟨_, rfl⟩
    have HBI : Hid (Below w2.heap.size w2 wI) := by show Below _ _ _; rw [hwI]; exact (Below.refl _ _).alloc (Nat.le_refl _) _
    rw [← hwI] at HRi
    rw [← hwI]
    clear hwI
    have HLt : Hid (w1.heap.size < w2.heap.size) := (Array.getElem?_eq_some_iff.1 HM.out.1).1
    have HB12 : Hid (Below w.heap.size w w2) := HB1.out.trans (HG.out.bel.mono HB1.out.size)
    -- what an entry is
    have HE : Hid (∀ e ∈ es.toList, ∃ s LV g cap, e.key = .string s ∧ e.val = .slice (some ⟨g, 0, none⟩) LV.length cap ∧ LV.map Prod.fst = upTo xs s xs.length ∧ RowL w2 w1.heap.size g cap LV) := fun e he => by
      have hfe := (HM.out.2.2 e.key e.val).2 ⟨e, he, rfl, rfl⟩
      obtain ⟨s, hs⟩ := HG.out.keys _ _ hfe
      rw [hs] at hfe
      obtain ⟨LV, g, cap, h1, h2, _, h4, h5⟩ := HG.out.yes s _ hfe
      exact ⟨s, LV, g, cap, hs, h1, h2, by rw [← h1]; exact h4, fun p hp => (h5 p hp).kept (Kept.of_below HG.out.bel)⟩
    go_loopw [6] (fun _ wr => ∃ (seen : Array Nat), Hid (RI w2.heap.size w1.heap.size es clock seen wr ∧ Below w2.heap.size w2 wr ∧ ∀ e ∈ es.toList, e.born ∈ seen → ∀ s, e.key = .string s → Goes (upTo xs s xs.length) 0 false [])) (fun _ wr => itLeft w2.heap.size w1.heap.size wr)
    case atStart => exact ⟨#[], HRi.out, HBI.out, fun e _ he => by simp at he⟩
    case round =>
      obtain ⟨seen, HR⟩ := hrel
      obtain ⟨wL, rfl⟩ : ∃ wo : World, wo = wr := ⟨_, rfl⟩
      rcases HR.out.1.next (P := Try.prog) (by have := HLt.out; omega) with ⟨h0, hnx⟩ | ⟨e, he, w3, hnx, hri3, hch, hen, hmem⟩
      · have HFin : Hid (ans = true) := HRes.out true (by
          simp only [true_iff]
          intro s
          cases hfs : f (.string s) with
          | none => rw [HG.out.no s hfs]; exact goes_nil _ _ _
          | some u =>
            obtain ⟨e, he, hek, _⟩ := (HM.out.2.2 (.string s) u).1 hfs
            refine HR.out.2.2 e he ?_ s hek
            by_cases hin : e.born ∈ seen
            · exact hin
            · exfalso
              have : e ∈ (leftOf es seen).toList := by
                unfold leftOf
                rw [Array.toList_filter]
                exact List.mem_filter.2 ⟨he, by simpa using hin⟩
              have h9 : (leftOf es seen).toList.length = 0 := by rw [Array.length_toList]; exact h0
              rw [List.length_eq_zero_iff.1 h9] at this
              cases this)
        have HB := Lib.hid (HB12.out.trans (HR.out.2.1.mono HB12.out.size))
        clear h0
        go_wp2_with fail
        go_ret2
        exact ⟨by simp [HFin.out], HB.out⟩
      · obtain ⟨s, LV, g, cap, hek, hev, hsp, hrow⟩ := HE.out e hmem
        have hb3 : Below w2.heap.size w2 w3 := HR.out.2.1.trans (hch.below HR.out.2.1.size (by simp))
        have hrow3 : RowL w3 w1.heap.size g cap LV := ⟨own_below hrow.1 hb3, fun p hp => (hrow.2 p hp).kept (Kept.of_below hb3)⟩
        have hlen : LV.length = (upTo xs s xs.length).length := by rw [← hsp, List.length_map]
        have hor := orders_any g cap LV (by rw [hlen]; exact (HO.out s).1) (fun p hp => (HO.out s).2 _ (by rw [← hsp]; exact List.mem_map_of_mem hp)) w3 w1.heap.size hrow3
        rw [hsp] at hor
        have HOr := Lib.hid hor
        have HMs : Hid (itLeft w2.heap.size w1.heap.size wL = (leftOf es seen).size ∧ (leftOf es (seen.push e.born)).size < (leftOf es seen).size) := ⟨HR.out.1.left, left_push es seen e he⟩
        rw [hek, hev] at hnx hen
        have HN := Lib.hid (And.intro hb3 (And.intro hri3 (HB12.out.trans (hb3.mono HB12.out.size))))
        have HK := Lib.hid (And.intro hek hmem)
        have HUn : Hid (∀ e' ∈ es.toList, e'.born = e.born → e' = e) := fun e' he' hb => by
          exact nodup_inj MapEntry.born ((Go.MapKept.stamped_iff es clock).1 HM.out.2.1).2.1 he' hmem hb
        clear hrow hrow3 hlen hor hb3 hri3 hch he hmem hek hev hsp
        by_cases hG : Goes (upTo xs s xs.length) 0 false []
        · rw [decide_eq_true hG] at HOr
          have HS := Lib.hid hG
          clear hG
          go_wp2_with (go_at_call 27; (with_reducible refine HOr.out.mono ?_); rintro e5 w5 ⟨rfl, hb5⟩; have HB5 := Lib.hid hb5; clear hb5)
          go_roundw
          case rel =>
            refine ⟨seen.push e.born, HN.out.2.1.go HB5.out, HN.out.1.trans (HB5.out.mono HN.out.1.size), fun e' he' hb' s' hs' => ?_⟩
            rcases Array.mem_push.1 hb' with hb' | hb'
            · exact HR.out.2.2 e' he' hb' s' hs'
            · have h9 := HUn.out e' he' hb'
              rw [h9, HK.out.1] at hs'
              cases hs'
              exact HS.out
          case measure => rw [HMs.out.1, (HN.out.2.1.go HB5.out).left]; exact HMs.out.2
        · rw [decide_eq_false hG] at HOr
          have HFin : Hid (ans = false) := HRes.out false ⟨fun h => (by cases h), fun h => absurd (h s) hG⟩
          clear hG
          go_wp2_with (go_at_call 27; (with_reducible refine HOr.out.mono ?_); rintro e5 w5 ⟨rfl, hb5⟩; have HB5 := Lib.hid hb5; clear hb5)
          go_ret2
          exact ⟨by simp [HFin.out], HN.out.2.2.trans (HB5.out.mono HN.out.2.2.size)⟩
  · have hans : decide (chkH xs = 0 ∧ RightB xs) = false := decide_eq_false fun h => hc h.1
    rw [hans]
    subst hav
    generalize chkH xs = c at *
    clear hv hok hn hchk hans
    go_enter Try.func12, Try.ntmps12
    go_wp2_with (go_at_call 25; (with_reducible refine HChk.out.mono ?_); rintro e w1 ⟨rfl, hb1⟩; have HB1 := Lib.hid hb1; clear hb1)
    go_ret2
    exact ⟨rfl, HB1.out⟩
end Go.Proofs.Ytbbbdhpihcbmmaa
