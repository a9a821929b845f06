/- spans of any history: what is kept. -/
import Derived.Test.YtbbbdhpihcbmmaaPOrd2
namespace Go.Proofs.Ytbbbdhpihcbmmaa
open Go.RowKit Own
open Go.Maps (Keyed)

/-- the call that event j begins, to its end if one is known -/
def spanOf (xs : List EvIn) (x : EvIn) (j : Nat) : SpIn :=
  if h : xs.findIdx (endB x.kc x.ks) < xs.length then
    if (xs[xs.findIdx (endB x.kc x.ks)]'h).unk = true then ⟨x.call, j, xs.length, false, ⟨0, 0, []⟩⟩ else ⟨x.call, j, xs.findIdx (endB x.kc x.ks), true, (xs[xs.findIdx (endB x.kc x.ks)]'h).rep⟩
  else ⟨x.call, j, xs.length, false, ⟨0, 0, []⟩⟩
/-- the calls of a name that the first j events begin -/
def upTo (xs : List EvIn) (s : ByteArray) : Nat → List SpIn
  | 0 => []
  | j + 1 => upTo xs s j ++ match xs[j]? with | some x => if x.done = false ∧ s = x.call.s then [spanOf xs x j] else [] | none => []
theorem upTo_len (xs : List EvIn) (s : ByteArray) : ∀ j, (upTo xs s j).length ≤ j
  | 0 => Nat.le_refl _
  | j + 1 => by
    have ih := upTo_len xs s j
    simp only [upTo, List.length_append]
    split
    · split
      · simp; omega
      · simp; omega
    · simp; omega
theorem upTo_done {xs : List EvIn} {j : Nat} (hj : j < xs.length) (hd : (xs[j]'hj).done = true) : (fun s => upTo xs s (j + 1)) = fun s => upTo xs s j := by
  funext s
  simp [upTo, List.getElem?_eq_getElem hj, hd]
theorem upTo_begin {xs : List EvIn} {j : Nat} (hj : j < xs.length) (hd : (xs[j]'hj).done = false) : (fun s => upTo xs s (j + 1)) = fun s => if s = (xs[j]'hj).call.s then upTo xs s j ++ [spanOf xs (xs[j]'hj) j] else upTo xs s j := by
  funext s
  simp only [upTo, List.getElem?_eq_getElem hj, hd, true_and]
  split <;> simp

structure GI (w0 : World) (mb n : Nat) (sp : ByteArray → List SpIn) (f : Value → Option Value) (w : World) : Prop where
  bel : Below w0.heap.size w0 w
  map : MapIs Try.prog 9 mb n f w
  keys : ∀ key v, f key = some v → ∃ s, key = .string s
  no : ∀ s, f (.string s) = none → sp s = []
  yes : ∀ s v, f (.string s) = some v → ∃ LV g cap, v = .slice (some ⟨g, 0, none⟩) LV.length cap ∧ LV.map Prod.fst = sp s ∧ LV ≠ [] ∧ w.ownsRow w0.heap.size 73 11 v LV.length (cellsSp LV) ∧ ∀ p ∈ LV, SpReads w0 p
  apart : ∀ s s' v v', f (.string s) = some v → f (.string s') = some v' → s ≠ s' → v.ownBlock ≠ v'.ownBlock
section
variable {w0 w w' : World} {mb n : Nat} {sp : ByteArray → List SpIn} {f : Value → Option Value}
theorem GI.made (w0 : World) (xs : List EvIn) : GI w0 w0.heap.size 0 (fun s => upTo xs s 0) noKeys (w0.alloc (.map #[] 0)) :=
  ⟨(Below.refl _ _).alloc (Nat.le_refl _) _, MapIs.made w0, fun _ _ h => (by cases h), fun _ _ => rfl, fun _ _ h => (by cases h), fun _ _ _ _ h => (by cases h)⟩
theorem GI.go (h : GI w0 mb n sp f w) (hb : Below w.heap.size w w') : GI w0 mb n sp f w' :=
  ⟨h.bel.trans (hb.mono h.bel.size), h.map.same (hb.block _ h.map.lt), h.keys, h.no, fun s v hv => by
    obtain ⟨LV, g, cap, h1, h2, h3, h4, h5⟩ := h.yes s v hv
    exact ⟨LV, g, cap, h1, h2, h3, own_below h4 hb, h5⟩, h.apart⟩
theorem GI.eqv {sp' : ByteArray → List SpIn} (h : GI w0 mb n sp f w) (e : sp' = sp) : GI w0 mb n sp' f w := e ▸ h
theorem own_map {v : Value} {k m : Nat} {e : TypeId} {size base : Nat} {xs : List Value} {es : Array MapEntry} {c : Nat} (h : w.ownsRow base e size v m xs) (hm : w.heap[k]? = some (.map es c)) : v.ownBlock ≠ some k :=
  own_ne h fun cur hc => by rw [hm] at hc; cases hc
/-- one call more -/
theorem GI.put (h : GI w0 mb n sp f w) (hB : w0.heap.size ≤ mb) (c : CallIn) (hcs : c.s.size ≤ 140737488351232) (hl : (sp c.s).length ≤ 100) (dA rA : Option Addr) (dc rc fr tt : Nat) (known : Bool) (r : RepIn)
    (hD : ReadsB w0 (.slice dA c.d.length dc) c.d) (hR : ReadsB w0 (.slice rA r.d.length rc) r.d) :
    ∃ A0 N0 c0 g cap W Z,
      (∀ W1, Below w.heap.size w W1 → (Instr.lookup 61 (.map (some mb)) (.string c.s) false).run Try.prog W1 = .ok (.slice A0 N0 c0) W1) ∧
      (appendH #[63, 63] 63 #[.slice A0 N0 c0, .slice (some ⟨w.heap.size, 0, none⟩) 1 1]).run Try.prog (w.alloc (.cells (spanC c (.slice dA c.d.length dc) fr tt known r (.slice rA r.d.length rc)) 73)).drew = .ok (.slice (some ⟨g, 0, none⟩) (N0 + 1) cap) W ∧
      (∀ (b : Nat) (cc : Array Value) (t : TypeId) (fz : Nat × Nat), w.heap[b]? = some (.cells cc t fz) → t ≠ 73 → W.heap[b]? = some (.cells cc t fz)) ∧
      (Instr.mapUpdate 61 (.map (some mb)) (.string c.s) (.slice (some ⟨g, 0, none⟩) (N0 + 1) cap)).run Try.prog W = .ok () Z ∧
      ∃ f', GI w0 mb (n + 1) (fun s => if s = c.s then sp s ++ [⟨c, fr, tt, known, r⟩] else sp s) f' Z := by
  obtain ⟨kl, hk⟩ := keyStr c.s hcs
  obtain ⟨es, cl, hmb, _⟩ := h.map
  -- what stands at the name
  obtain ⟨LV, A0, c0, hv, hsp, hown, hrd, hap⟩ : ∃ LV A0 c0, (f (.string c.s)).getD (.slice none 0 0) = .slice A0 LV.length c0 ∧ LV.map Prod.fst = sp c.s ∧ w.ownsRow w0.heap.size 73 11 (.slice A0 LV.length c0) LV.length (cellsSp LV) ∧ (∀ p ∈ LV, SpReads w0 p) ∧ ∀ s' v', f (.string s') = some v' → s' ≠ c.s → ∀ g, v'.ownBlock = some g → some g ≠ (Value.slice A0 LV.length c0).ownBlock := by
    cases hf : f (.string c.s) with
    | none => exact ⟨[], none, 0, rfl, (h.no _ hf).symm, World.ownsRow_nil _ _ _ _, fun _ hp => (by cases hp), fun _ _ _ _ g _ he => (by cases he)⟩
    | some v =>
      obtain ⟨LV, g, cap, h1, h2, h3, h4, h5⟩ := h.yes _ v hf
      subst h1
      exact ⟨LV, _, cap, rfl, h2, h4, h5, fun s' v' hv' hne g' hg' he => h.apart s' c.s v' _ hv' hf hne (hg'.trans he)⟩
  have hN : LV.length ≤ 100 := by have := congrArg List.length hsp; rw [List.length_map] at this; omega
  obtain ⟨i0, hi, hz0, hz1, hz2⟩ := info_parts infoSpan
  obtain ⟨Y1, hY1⟩ : ∃ Y1, Y1 = (w.alloc (.cells (spanC c (.slice dA c.d.length dc) fr tt known r (.slice rA r.d.length rc)) 73)).drew := ⟨_, rfl⟩
  have hb : Below w.heap.size w Y1 := by rw [hY1]; exact ((Below.refl _ _).alloc (Nat.le_refl _) _).drew
  have hnew : ∀ j u, (spanC c (.slice dA c.d.length dc) fr tt known r (.slice rA r.d.length rc)).toList[j]? = some u → Y1.cell? ((⟨w.heap.size, 0, none⟩ : Addr).add j) = some u := by
    rw [hY1]
    exact World.news_of_block (cs := spanC c (.slice dA c.d.length dc) fr tt known r (.slice rA r.d.length rc)) (t := 73) (fr := (0, 0)) (heap_alloc_new w _)
  obtain ⟨v', W, hr, hownW, hg, _, hob⟩ := run_append_own_at (P := Try.prog) Y1 w0.heap.size 63 63 73 i0 _ 11 128 Try.underlying63 hi hz0 hz1 hz2 rfl (by decide) (.slice A0 LV.length c0) LV.length (cellsSp LV) (own_below hown hb) ⟨w.heap.size, 0, none⟩ 1 1 (spanC c (.slice dA c.d.length dc) fr tt known r (.slice rA r.d.length rc)).toList rfl
    hnew (spanC_one c dA rA _ dc _ rc fr tt known r) (by unfold maxLen; omega) (by omega) (Nat.le_trans h.bel.size hb.size)
  have hv' : ∃ g cap, v' = .slice (some ⟨g, 0, none⟩) (LV.length + 1) cap := by
    rcases hownW.2 with ⟨_, h0⟩ | ⟨g, cap, cur, rfl, _⟩
    · omega
    · exact ⟨g, cap, rfl⟩
  obtain ⟨g, cap, rfl⟩ := hv'
  have hmY : Y1.heap[mb]? = some (.map es cl) := (hb.block _ (Array.getElem?_eq_some_iff.1 hmb).1).trans hmb
  have hmW : W.heap[mb]? = some (.map es cl) := (hg.block mb (Array.getElem?_eq_some_iff.1 hmY).1 (fun e => own_map (own_below hown hb) hmY e.symm)).trans hmY
  have hmapW : MapIs Try.prog 9 mb n f W := h.map.same (hmW.trans hmb.symm)
  obtain ⟨Z, hst, hmZ, hcZ⟩ := hmapW.store (t := 61) (e := 63) (val := .slice (some ⟨g, 0, none⟩) (LV.length + 1) cap) keyedStr Try.underlying61 hk
  have hbW : Below w0.heap.size w0 W := (h.bel.trans (hb.mono h.bel.size)).grown hg (Nat.le_trans h.bel.size hb.size) (fun k hk' => (hown.lt k hk').1)
  have hbZ : Below w0.heap.size w0 Z := hbW.trans (hcZ.below hbW.size (by simpa using hB))
  have hownZ := own_same hownW (w' := Z) fun b hb' => hcZ.block b (hownW.lt b hb').2 (by
    rw [List.mem_singleton]
    rintro rfl
    exact own_map hownW hmW hb')
  have hold : ∀ s' v', f (.string s') = some v' → s' ≠ c.s → ∀ g', v'.ownBlock = some g' → g' < w.heap.size ∧ Z.heap[g']? = w.heap[g']? := fun s' v' hf' hne g' hg' => by
    obtain ⟨L1, g1, cap1, h1, h2, h3, h4, h5⟩ := h.yes s' v' hf'
    have hlt := (h4.lt g' hg').2
    have hY := hb.block g' hlt
    have hltY : g' < Y1.heap.size := Nat.lt_of_lt_of_le hlt hb.size
    have hW := hg.block g' hltY (hap s' v' hf' hne g' hg')
    refine ⟨hlt, ((hcZ.block g' (Nat.lt_of_lt_of_le hltY hg.size) ?_).trans hW).trans hY⟩
    rw [List.mem_singleton]
    rintro rfl
    exact own_map h4 hmb hg'
  refine ⟨A0, LV.length, c0, g, cap, W, Z, fun W1 hW1 => ?_, ?_, fun b cc t fr' hbb ht => ?_, hst, _, hbZ, hmZ, ?_, ?_, ?_, ?_⟩
  · have hm1 : MapIs Try.prog 9 mb n f W1 := h.map.same (hW1.block _ h.map.lt)
    have := hm1.look (t := 61) keyedStr Try.underlying61 (zeroSpans W1) hk
    rw [this, hv]
  · rw [← hY1]; exact hr
  · have hbY := (hb.block b (Array.getElem?_eq_some_iff.1 hbb).1).trans hbb
    refine (hg.block b (Array.getElem?_eq_some_iff.1 hbY).1 (fun e => ?_)).trans hbY
    exact own_ne (own_below hown hb) (fun cur hc => by rw [hbY] at hc; cases hc; exact ht rfl) e.symm
  · intro key v hkv
    by_cases e : key = .string c.s
    · exact ⟨_, e⟩
    · rw [putKey_other _ _ e] at hkv; exact h.keys key v hkv
  · intro s hs
    by_cases e : s = c.s
    · subst e; rw [putKey_same] at hs; cases hs
    · rw [if_neg e]
      rw [putKey_other _ _ (by simpa using e)] at hs; exact h.no s hs
  · intro s v hs
    by_cases e : s = c.s
    · subst e
      rw [putKey_same] at hs; cases hs
      refine ⟨LV ++ [(⟨c, fr, tt, known, r⟩, .slice dA c.d.length dc, .slice rA r.d.length rc)], g, cap, by simp, by simp [hsp], by simp, ?_, fun p hp => ?_⟩
      · rw [cellsSp_snoc, List.length_append]; exact hownZ
      · rcases List.mem_append.1 hp with hp | hp
        · exact hrd p hp
        · rw [List.mem_singleton] at hp
          subst hp
          exact ⟨dA, dc, rA, rc, rfl, rfl, hD, hR⟩
    · rw [putKey_other _ _ (by simpa using e)] at hs
      obtain ⟨L1, g1, cap1, h1, h2, h3, h4, h5⟩ := h.yes s v hs
      exact ⟨L1, g1, cap1, h1, by rw [if_neg e]; exact h2, h3, own_same h4 fun g' hg' => (hold s v hs e g' hg').2, h5⟩
  · -- a name's row is no other's
    have key : ∀ s' v', f (.string s') = some v' → s' ≠ c.s → v'.ownBlock ≠ (Value.slice (some ⟨g, 0, none⟩) (LV.length + 1) cap).ownBlock := fun s' v' hf' hne he => by
      have hlt := (hold s' v' hf' hne g (he.trans rfl)).1
      rcases hob with ho | ho
      · exact hap s' v' hf' hne g (he.trans rfl) (Eq.trans (Eq.symm (rfl : (Value.slice (some ⟨g, 0, none⟩) (LV.length + 1) cap).ownBlock = some g)) ho)
      · have h9 : g = Y1.heap.size := by simpa [Value.ownBlock] using ho
        have := hb.size
        omega
    intro s s' v v' hs hs' hne
    by_cases e : s = c.s
    · subst e
      rw [putKey_same] at hs; cases hs
      rw [putKey_other _ _ (by simpa using fun h : s' = c.s => hne h.symm)] at hs'
      exact fun he => key s' v' hs' (fun h => hne h.symm) he.symm
    · rw [putKey_other _ _ (by simpa using e)] at hs
      by_cases e' : s' = c.s
      · subst e'
        rw [putKey_same] at hs'; cases hs'
        exact key s v hs e
      · rw [putKey_other _ _ (by simpa using e')] at hs'
        exact h.apart s s' v v' hs hs' hne
end
end Go.Proofs.Ytbbbdhpihcbmmaa
