/- spans of any history: what is kept. The walk of spans, of any history. (Printed by gen_spans.py.) -/
import Derived.Test.YtbbbdhpihcbmmaaPOrd2
namespace Go.Proofs.Ytbbbdhpihcbmmaa
open Go.RowKit Own
open Go.Maps (Keyed)

/-- the call that event j begins, to its end if one is known -/
def spanOf (xs : List EvIn) (x : EvIn) (j : Nat) : SpIn :=
  if h : xs.findIdx (endB x.kc x.ks) < xs.length then
    if (xs[xs.findIdx (endB x.kc x.ks)]'h).unk = true then ⟨x.call, j, xs.length, false, ⟨0, 0, []⟩⟩ else ⟨x.call, j, xs.findIdx (endB x.kc x.ks), true, (xs[xs.findIdx (endB x.kc x.ks)]'h).rep⟩
  else ⟨x.call, j, xs.length, false, ⟨0, 0, []⟩⟩
/-- the calls of a name that the first j events begin -/
def upTo (xs : List EvIn) (s : ByteArray) : Nat → List SpIn
  | 0 => []
  | j + 1 => upTo xs s j ++ match xs[j]? with | some x => if x.done = false ∧ s = x.call.s then [spanOf xs x j] else [] | none => []
theorem upTo_len (xs : List EvIn) (s : ByteArray) : ∀ j, (upTo xs s j).length ≤ j
  | 0 => Nat.le_refl _
  | j + 1 => by
    have ih := upTo_len xs s j
    simp only [upTo, List.length_append]
    split
    · split
      · simp; omega
      · simp; omega
    · simp; omega
theorem upTo_done {xs : List EvIn} {j : Nat} (hj : j < xs.length) (hd : (xs[j]'hj).done = true) : (fun s => upTo xs s (j + 1)) = fun s => upTo xs s j := by
  funext s
  simp [upTo, List.getElem?_eq_getElem hj, hd]
theorem upTo_begin {xs : List EvIn} {j : Nat} (hj : j < xs.length) (hd : (xs[j]'hj).done = false) : (fun s => upTo xs s (j + 1)) = fun s => if s = (xs[j]'hj).call.s then upTo xs s j ++ [spanOf xs (xs[j]'hj) j] else upTo xs s j := by
  funext s
  simp only [upTo, List.getElem?_eq_getElem hj, hd, true_and]
  split <;> simp

structure GI (w0 : World) (mb n : Nat) (sp : ByteArray → List SpIn) (f : Value → Option Value) (w : World) : Prop where
  bel : Below w0.heap.size w0 w
  map : MapIs Try.prog 9 mb n f w
  keys : ∀ key v, f key = some v → ∃ s, key = .string s
  no : ∀ s, f (.string s) = none → sp s = []
  yes : ∀ s v, f (.string s) = some v → ∃ LV g cap, v = .slice (some ⟨g, 0, none⟩) LV.length cap ∧ LV.map Prod.fst = sp s ∧ LV ≠ [] ∧ w.ownsRow w0.heap.size 73 11 v LV.length (cellsSp LV) ∧ ∀ p ∈ LV, SpReads w0 p
  apart : ∀ s s' v v', f (.string s) = some v → f (.string s') = some v' → s ≠ s' → v.ownBlock ≠ v'.ownBlock
section
variable {w0 w w' : World} {mb n : Nat} {sp : ByteArray → List SpIn} {f : Value → Option Value}
theorem GI.made (w0 : World) (xs : List EvIn) : GI w0 w0.heap.size 0 (fun s => upTo xs s 0) noKeys (w0.alloc (.map #[] 0)) :=
  ⟨(Below.refl _ _).alloc (Nat.le_refl _) _, MapIs.made w0, fun _ _ h => (by cases h), fun _ _ => rfl, fun _ _ h => (by cases h), fun _ _ _ _ h => (by cases h)⟩
theorem GI.go (h : GI w0 mb n sp f w) (hb : Below w.heap.size w w') : GI w0 mb n sp f w' :=
  ⟨h.bel.trans (hb.mono h.bel.size), h.map.same (hb.block _ h.map.lt), h.keys, h.no, fun s v hv => by
    obtain ⟨LV, g, cap, h1, h2, h3, h4, h5⟩ := h.yes s v hv
    exact ⟨LV, g, cap, h1, h2, h3, own_below h4 hb, h5⟩, h.apart⟩
theorem GI.eqv {sp' : ByteArray → List SpIn} (h : GI w0 mb n sp f w) (e : sp' = sp) : GI w0 mb n sp' f w := e ▸ h
theorem own_map {v : Value} {k m : Nat} {e : TypeId} {size base : Nat} {xs : List Value} {es : Array MapEntry} {c : Nat} (h : w.ownsRow base e size v m xs) (hm : w.heap[k]? = some (.map es c)) : v.ownBlock ≠ some k :=
  own_ne h fun cur hc => by rw [hm] at hc; cases hc
/-- one call more -/
theorem GI.put (h : GI w0 mb n sp f w) (hB : w0.heap.size ≤ mb) (c : CallIn) (hcs : c.s.size ≤ 140737488351232) (hl : (sp c.s).length ≤ 100) (dA rA : Option Addr) (dc rc fr tt : Nat) (known : Bool) (r : RepIn)
    (hD : ReadsB w0 (.slice dA c.d.length dc) c.d) (hR : ReadsB w0 (.slice rA r.d.length rc) r.d) :
    ∃ A0 N0 c0 g cap W Z,
      (∀ W1, Below w.heap.size w W1 → (Instr.lookup 61 (.map (some mb)) (.string c.s) false).run Try.prog W1 = .ok (.slice A0 N0 c0) W1) ∧
      (appendH #[63, 63] 63 #[.slice A0 N0 c0, .slice (some ⟨w.heap.size, 0, none⟩) 1 1]).run Try.prog (w.alloc (.cells (spanC c (.slice dA c.d.length dc) fr tt known r (.slice rA r.d.length rc)) 73)).drew = .ok (.slice (some ⟨g, 0, none⟩) (N0 + 1) cap) W ∧
      (∀ (b : Nat) (cc : Array Value) (t : TypeId) (fz : Nat × Nat), w.heap[b]? = some (.cells cc t fz) → t ≠ 73 → W.heap[b]? = some (.cells cc t fz)) ∧
      (Instr.mapUpdate 61 (.map (some mb)) (.string c.s) (.slice (some ⟨g, 0, none⟩) (N0 + 1) cap)).run Try.prog W = .ok () Z ∧
      ∃ f', GI w0 mb (n + 1) (fun s => if s = c.s then sp s ++ [⟨c, fr, tt, known, r⟩] else sp s) f' Z := by
  obtain ⟨kl, hk⟩ := keyStr c.s hcs
  obtain ⟨es, cl, hmb, _⟩ := h.map
  -- what stands at the name
  obtain ⟨LV, A0, c0, hv, hsp, hown, hrd, hap⟩ : ∃ LV A0 c0, (f (.string c.s)).getD (.slice none 0 0) = .slice A0 LV.length c0 ∧ LV.map Prod.fst = sp c.s ∧ w.ownsRow w0.heap.size 73 11 (.slice A0 LV.length c0) LV.length (cellsSp LV) ∧ (∀ p ∈ LV, SpReads w0 p) ∧ ∀ s' v', f (.string s') = some v' → s' ≠ c.s → ∀ g, v'.ownBlock = some g → some g ≠ (Value.slice A0 LV.length c0).ownBlock := by
    cases hf : f (.string c.s) with
    | none => exact ⟨[], none, 0, rfl, (h.no _ hf).symm, World.ownsRow_nil _ _ _ _, fun _ hp => (by cases hp), fun _ _ _ _ g _ he => (by cases he)⟩
    | some v =>
      obtain ⟨LV, g, cap, h1, h2, h3, h4, h5⟩ := h.yes _ v hf
      subst h1
      exact ⟨LV, _, cap, rfl, h2, h4, h5, fun s' v' hv' hne g' hg' he => h.apart s' c.s v' _ hv' hf hne (hg'.trans he)⟩
  have hN : LV.length ≤ 100 := by have := congrArg List.length hsp; rw [List.length_map] at this; omega
  obtain ⟨i0, hi, hz0, hz1, hz2⟩ := info_parts infoSpan
  obtain ⟨Y1, hY1⟩ : ∃ Y1, Y1 = (w.alloc (.cells (spanC c (.slice dA c.d.length dc) fr tt known r (.slice rA r.d.length rc)) 73)).drew := ⟨_, rfl⟩
  have hb : Below w.heap.size w Y1 := by rw [hY1]; exact ((Below.refl _ _).alloc (Nat.le_refl _) _).drew
  have hnew : ∀ j u, (spanC c (.slice dA c.d.length dc) fr tt known r (.slice rA r.d.length rc)).toList[j]? = some u → Y1.cell? ((⟨w.heap.size, 0, none⟩ : Addr).add j) = some u := by
    rw [hY1]
    exact World.news_of_block (cs := spanC c (.slice dA c.d.length dc) fr tt known r (.slice rA r.d.length rc)) (t := 73) (fr := (0, 0)) (heap_alloc_new w _)
  obtain ⟨v', W, hr, hownW, hg, _, hob⟩ := run_append_own_at (P := Try.prog) Y1 w0.heap.size 63 63 73 i0 _ 11 128 Try.underlying63 hi hz0 hz1 hz2 rfl (by decide) (.slice A0 LV.length c0) LV.length (cellsSp LV) (own_below hown hb) ⟨w.heap.size, 0, none⟩ 1 1 (spanC c (.slice dA c.d.length dc) fr tt known r (.slice rA r.d.length rc)).toList rfl
    hnew (spanC_one c dA rA _ dc _ rc fr tt known r) (by unfold maxLen; omega) (by omega) (Nat.le_trans h.bel.size hb.size)
  have hv' : ∃ g cap, v' = .slice (some ⟨g, 0, none⟩) (LV.length + 1) cap := by
    rcases hownW.2 with ⟨_, h0⟩ | ⟨g, cap, cur, rfl, _⟩
    · omega
    · exact ⟨g, cap, rfl⟩
  obtain ⟨g, cap, rfl⟩ := hv'
  have hmY : Y1.heap[mb]? = some (.map es cl) := (hb.block _ (Array.getElem?_eq_some_iff.1 hmb).1).trans hmb
  have hmW : W.heap[mb]? = some (.map es cl) := (hg.block mb (Array.getElem?_eq_some_iff.1 hmY).1 (fun e => own_map (own_below hown hb) hmY e.symm)).trans hmY
  have hmapW : MapIs Try.prog 9 mb n f W := h.map.same (hmW.trans hmb.symm)
  obtain ⟨Z, hst, hmZ, hcZ⟩ := hmapW.store (t := 61) (e := 63) (val := .slice (some ⟨g, 0, none⟩) (LV.length + 1) cap) keyedStr Try.underlying61 hk
  have hbW : Below w0.heap.size w0 W := (h.bel.trans (hb.mono h.bel.size)).grown hg (Nat.le_trans h.bel.size hb.size) (fun k hk' => (hown.lt k hk').1)
  have hbZ : Below w0.heap.size w0 Z := hbW.trans (hcZ.below hbW.size (by simpa using hB))
  have hownZ := own_same hownW (w' := Z) fun b hb' => hcZ.block b (hownW.lt b hb').2 (by
    rw [List.mem_singleton]
    rintro rfl
    exact own_map hownW hmW hb')
  have hold : ∀ s' v', f (.string s') = some v' → s' ≠ c.s → ∀ g', v'.ownBlock = some g' → g' < w.heap.size ∧ Z.heap[g']? = w.heap[g']? := fun s' v' hf' hne g' hg' => by
    obtain ⟨L1, g1, cap1, h1, h2, h3, h4, h5⟩ := h.yes s' v' hf'
    have hlt := (h4.lt g' hg').2
    have hY := hb.block g' hlt
    have hltY : g' < Y1.heap.size := Nat.lt_of_lt_of_le hlt hb.size
    have hW := hg.block g' hltY (hap s' v' hf' hne g' hg')
    refine ⟨hlt, ((hcZ.block g' (Nat.lt_of_lt_of_le hltY hg.size) ?_).trans hW).trans hY⟩
    rw [List.mem_singleton]
    rintro rfl
    exact own_map h4 hmb hg'
  refine ⟨A0, LV.length, c0, g, cap, W, Z, fun W1 hW1 => ?_, ?_, fun b cc t fr' hbb ht => ?_, hst, _, hbZ, hmZ, ?_, ?_, ?_, ?_⟩
  · have hm1 : MapIs Try.prog 9 mb n f W1 := h.map.same (hW1.block _ h.map.lt)
    have := hm1.look (t := 61) keyedStr Try.underlying61 (zeroSpans W1) hk
    rw [this, hv]
  · rw [← hY1]; exact hr
  · have hbY := (hb.block b (Array.getElem?_eq_some_iff.1 hbb).1).trans hbb
    refine (hg.block b (Array.getElem?_eq_some_iff.1 hbY).1 (fun e => ?_)).trans hbY
    exact own_ne (own_below hown hb) (fun cur hc => by rw [hbY] at hc; cases hc; exact ht rfl) e.symm
  · intro key v hkv
    by_cases e : key = .string c.s
    · exact ⟨_, e⟩
    · rw [putKey_other _ _ e] at hkv; exact h.keys key v hkv
  · intro s hs
    by_cases e : s = c.s
    · subst e; rw [putKey_same] at hs; cases hs
    · rw [if_neg e]
      rw [putKey_other _ _ (by simpa using e)] at hs; exact h.no s hs
  · intro s v hs
    by_cases e : s = c.s
    · subst e
      rw [putKey_same] at hs; cases hs
      refine ⟨LV ++ [(⟨c, fr, tt, known, r⟩, .slice dA c.d.length dc, .slice rA r.d.length rc)], g, cap, by simp, by simp [hsp], by simp, ?_, fun p hp => ?_⟩
      · rw [cellsSp_snoc, List.length_append]; exact hownZ
      · rcases List.mem_append.1 hp with hp | hp
        · exact hrd p hp
        · rw [List.mem_singleton] at hp
          subst hp
          exact ⟨dA, dc, rA, rc, rfl, rfl, hD, hR⟩
    · rw [putKey_other _ _ (by simpa using e)] at hs
      obtain ⟨L1, g1, cap1, h1, h2, h3, h4, h5⟩ := h.yes s v hs
      exact ⟨L1, g1, cap1, h1, by rw [if_neg e]; exact h2, h3, own_same h4 fun g' hg' => (hold s v hs e g' hg').2, h5⟩
  · -- a name's row is no other's
    have key : ∀ s' v', f (.string s') = some v' → s' ≠ c.s → v'.ownBlock ≠ (Value.slice (some ⟨g, 0, none⟩) (LV.length + 1) cap).ownBlock := fun s' v' hf' hne he => by
      have hlt := (hold s' v' hf' hne g (he.trans rfl)).1
      rcases hob with ho | ho
      · exact hap s' v' hf' hne g (he.trans rfl) (Eq.trans (Eq.symm (rfl : (Value.slice (some ⟨g, 0, none⟩) (LV.length + 1) cap).ownBlock = some g)) ho)
      · have h9 : g = Y1.heap.size := by simpa [Value.ownBlock] using ho
        have := hb.size
        omega
    intro s s' v v' hs hs' hne
    by_cases e : s = c.s
    · subst e
      rw [putKey_same] at hs; cases hs
      rw [putKey_other _ _ (by simpa using fun h : s' = c.s => hne h.symm)] at hs'
      exact fun he => key s' v' hs' (fun h => hne h.symm) he.symm
    · rw [putKey_other _ _ (by simpa using e)] at hs
      by_cases e' : s' = c.s
      · subst e'
        rw [putKey_same] at hs'; cases hs'
        exact key s v hs e
      · rw [putKey_other _ _ (by simpa using e')] at hs'
        exact h.apart s s' v v' hs hs' hne
end
end Go.Proofs.Ytbbbdhpihcbmmaa
namespace Go.Proofs.Ytbbbdhpihcbmmaa
open Go.RowKit Own

def SpansPost (xs : List EvIn) (w : World) (w' : World) : Prop := ∃ n f, GI w w.heap.size n (fun s => upTo xs s xs.length) f w'
theorem endI_some {kc ks : Int} {xs : List EvIn} (h : xs.findIdx (endB kc ks) < xs.length) : endI kc ks xs = (xs.findIdx (endB kc ks) : Int) := by unfold endI; rw [if_pos h]
theorem endI_none {kc ks : Int} {xs : List EvIn} (h : ¬ xs.findIdx (endB kc ks) < xs.length) : endI kc ks xs = -1 := by unfold endI; rw [if_neg h]

attribute [local go_sem ↓] hide_append
set_option maxHeartbeats 16000000 in
set_option maxRecDepth 100000 in
theorem spans_any (v : Value) (xs : List EvIn) (w : World) (hv : ReadsEvs w v xs) (hok : ∀ x ∈ xs, EvOk x) (hn : xs.length ≤ 64) :
    Calls Try.prog 26 #[v] w fun e w' => e = .returned (.map (some w.heap.size)) ∧ SpansPost xs w w' := by
  obtain ⟨Av, cv, rfl⟩ := hv.slice
  have HV := Lib.hid hv
  have HOk := Lib.hid hok
  have HIdx : Hid (∀ kc ks W eb, Below w.heap.size w W → W.cell? ⟨eb, 0, none⟩ = some (.int .i64 kc) → W.cell? ⟨eb, 1, none⟩ = some (.int .i64 ks) → Calls Try.prog 33 #[.slice Av xs.length cv, .func (.func 34) #[] #[.pointer (some ⟨eb, 0, none⟩)]] W fun e w' => e = .returned (.int .i64 (endI kc ks xs)) ∧ Below W.heap.size W w') := fun kc ks W eb hW c0 c1 => idx_any eb kc ks _ _ W (HV.out.below hW) c0 c1 (by omega)
  obtain ⟨N, hN⟩ : ∃ N : Nat, xs.length = N := ⟨_, rfl⟩
  have HN : Hid (xs.length = N ∧ N ≤ 64) := ⟨hN, by omega⟩
  have HAt : Hid (∀ j (hj : j < xs.length), ∃ bb off, Av = some ⟨bb, off, none⟩ ∧ ∀ W, Below w.heap.size w W → EvAt W bb (off + j * 12) (xs[j]'hj)) := fun j hj => by
    rcases hv with ⟨_, h⟩ | ⟨b, off, c, he, hc⟩
    · subst h; cases hj
    · cases he
      exact ⟨b, off, rfl, fun W hW => (hc j hj).below hW⟩
  rw [hN] at HIdx
  clear hv hok HV
  have hmm := @run_makeMap Try.prog
  have HS := Lib.hid (GI.made w xs)
  rw [hN]
  clear hN hn
  go_enter Try.func26, Try.ntmps26
  go_wp2_with fail
  go_loopw [11] (fun i wr => ∃ j : Nat, i = .int .i64 j ∧ j ≤ N ∧ Hid (∃ n f, GI w w.heap.size n (fun s => upTo xs s j) f wr)) (fun i _ => N - (intOf i).toNat)
  case atStart => exact ⟨0, rfl, Nat.zero_le _, 0, noKeys, HS.out⟩
  case round =>
    obtain ⟨j, rfl, hjN, HJ⟩ := hrel
    obtain ⟨wL, rfl⟩ : ∃ wo : World, wo = wr := ⟨_, rfl⟩
    obtain ⟨nn, f, hgi⟩ := HJ.out
    clear HJ HS
    have kN : (N : Int) ≤ 100 := by have := HN.out.2; omega
    by_cases hj : j < N
    · have k1 : (j : Int) < (N : Int) := by omega
      have k0 : (0 : Int) ≤ (j : Int) := by omega
      have hjx : j < xs.length := by have := HN.out.1; omega
      obtain ⟨bb, off, rfl, hat⟩ := HAt.out j hjx
      have hbL := hgi.bel
      cases hd : (xs[j]'hjx).done with
      | true =>
        obtain ⟨dA, dc, rA, rc, ⟨e0, e1, e2, e3, e4, e5, e6, e7, e8, e9, e10, e11⟩, _, _⟩ := (hat wL hbL).cells
        rw [hd] at e2
        have HG := Lib.hid (hgi.eqv (upTo_done hjx hd))
        clear hat hgi hbL hd
        generalize xs[j]'hjx = x at *
        clear hjx
        go_wp2_with fail
        go_roundw
        case rel => exact ⟨j + 1, by go_num, by omega, nn, f, HG.out.go ((Below.refl _ _).alloc (Nat.le_refl _) _)⟩
        case measure => simp [intOf]; omega
      | false =>
        have hux := upTo_begin hjx hd
        have hxo := HOk.out _ (List.getElem_mem hjx)
        have hlen := upTo_len xs (xs[j]'hjx).call.s j
        have hso := spanOf.eq_1 xs (xs[j]'hjx) j
        obtain ⟨dA, dc, rA, rc, hce, hrd, _⟩ := (hat w (Below.refl _ _)).cellsB
        clear hat
        generalize xs[j]'hjx = x at *
        obtain ⟨e0, e1, e2, e3, e4, e5, e6, e7, e8, e9, e10, e11⟩ := hce wL hbL
        rw [hd] at e2
        obtain ⟨O1, hO1⟩ : ∃ O1, O1 = Obj.cells (evC x (.slice dA x.call.d.length dc) (.slice rA x.rep.d.length rc)) 44 := ⟨_, rfl⟩
        obtain ⟨O2, hO2⟩ : ∃ O2, O2 = Obj.cells (spanC x.call (.slice dA x.call.d.length dc) j N false ⟨0, 0, []⟩ (.slice none 0 0)) 73 := ⟨_, rfl⟩
        have b1 : Below wL.heap.size wL (wL.alloc O1) := (Below.refl _ _).alloc (Nat.le_refl _) _
        have b2 : Below (wL.alloc O1).heap.size (wL.alloc O1) ((wL.alloc O1).alloc O2) := (Below.refl _ _).alloc (Nat.le_refl _) _
        have hsz : (wL.alloc O1).heap.size = wL.heap.size + 1 := by simp
        have x1b : (wL.alloc O1).heap[wL.heap.size]? = some (.cells (evC x (.slice dA x.call.d.length dc) (.slice rA x.rep.d.length rc)) 44 (0, 0)) := by rw [hO1]; exact heap_alloc_new wL _
        have x2b : ((wL.alloc O1).alloc O2).heap[wL.heap.size + 1]? = some (.cells (spanC x.call (.slice dA x.call.d.length dc) j N false ⟨0, 0, []⟩ (.slice none 0 0)) 73 (0, 0)) := by rw [hO2, ← hsz]; exact heap_alloc_new (wL.alloc O1) _
        have x1c := (b2.block wL.heap.size (by omega)).trans x1b
        have b12 := b1.trans (b2.mono b1.size)
        have hI := HIdx.out x.kc x.ks ((wL.alloc O1).alloc O2) wL.heap.size (hbL.trans (b12.mono hbL.size)) (by rw [cell_of_row _ _ 0 _ _ _ x1c]; rfl) (by rw [cell_of_row _ _ 1 _ _ _ x1c]; rfl)
        have HAft : Hid (∀ w3, Below ((wL.alloc O1).alloc O2).heap.size ((wL.alloc O1).alloc O2) w3 → w3.heap[wL.heap.size]? = some (.cells (evC x (.slice dA x.call.d.length dc) (.slice rA x.rep.d.length rc)) 44 (0, 0)) ∧ w3.heap[wL.heap.size + 1]? = some (.cells (spanC x.call (.slice dA x.call.d.length dc) j N false ⟨0, 0, []⟩ (.slice none 0 0)) 73 (0, 0)) ∧ Below wL.heap.size wL w3 ∧ Below w.heap.size w w3) := fun w3 hb => by
          have hs2 : ((wL.alloc O1).alloc O2).heap.size = wL.heap.size + 2 := by simp
          have b3 := b12.trans (hb.mono b12.size)
          exact ⟨(hb.block _ (by omega)).trans x1c, (hb.block _ (by omega)).trans x2b, b3, hbL.trans (b3.mono hbL.size)⟩
        have HG := Lib.hid hgi
        have HLen : Hid ((upTo xs x.call.s j).length ≤ 100) := by have := HN.out.2; show _ ≤ _; omega
        have HRd := Lib.hid hrd
        have HXo := Lib.hid hxo
        rw [hO1, hO2] at HAft
        rw [hO1, hO2] at hI
        clear hgi hlen hrd hce hO1 hO2 b1 b2 hsz x1b x2b x1c b12 hbL hxo HOk HIdx
        by_cases hq : xs.findIdx (endB x.kc x.ks) < xs.length
        · rw [dif_pos hq] at hso
          rw [endI_some hq] at hI
          obtain ⟨bb', off', he, hatq⟩ := HAt.out _ hq
          cases he
          obtain ⟨sA, sc, tA, tc, hcf, _, hyr⟩ := (hatq w (Below.refl _ _)).cellsB
          generalize xs[xs.findIdx (endB x.kc x.ks)]'hq = y at *
          clear hatq
          have hqN : xs.findIdx (endB x.kc x.ks) < N := by have := HN.out.1; omega
          clear hq
          generalize xs.findIdx (endB x.kc x.ks) = q at *
          have q0 : (0 : Int) ≤ (q : Int) := by omega
          have q1 : (q : Int) < (N : Int) := by omega
          have HCf := Lib.hid hcf
          have HYr := Lib.hid hyr
          clear hcf hyr
          cases hu : y.unk with
          | false =>
            rw [if_neg (by rw [hu]; decide)] at hso
            have HSo : Hid ((fun s => upTo xs s (j + 1)) = fun s => if s = x.call.s then upTo xs s j ++ [⟨x.call, j, q, true, y.rep⟩] else upTo xs s j) := by rw [← hso]; exact hux
            clear hso hux
            obtain ⟨xc, xk, xdone, xunk, ⟨k, xs', a, d, n⟩, ⟨code, size, rd⟩⟩ := x
            dsimp only at e0 e1 e2 e3 e4 e5 e6 e7 e8 e9 e10 e11 HXo HRd HLen HSo hd hI
            subst hd
            dsimp only [evC, spanC] at hI HAft
            have HI := Lib.hid hI
            clear hI
            obtain ⟨yc, yk, ydone, yunk, ycall, ⟨ycode, ysize, yrd⟩⟩ := y
            dsimp only at HCf HYr HSo hu
            subst hu
            go_wp2_with (go_at_call 33; refine HI.out.mono ?_; rintro e w3 ⟨rfl, hb3⟩; obtain ⟨y1, y2, y4, y6⟩ := HAft.out w3 hb3; obtain ⟨f0, f1, f2, f3, f4, f5, f6, f7, f8, f9, f10, f11⟩ := HCf.out w3 y6)
            have t0 := cell_of_row w3 (wL.heap.size + 1) 0 _ _ _ y2
            have t1 := cell_of_row w3 (wL.heap.size + 1) 1 _ _ _ y2
            have t2 := cell_of_row w3 (wL.heap.size + 1) 2 _ _ _ y2
            have t3 := cell_of_row w3 (wL.heap.size + 1) 3 _ _ _ y2
            have t4 := cell_of_row w3 (wL.heap.size + 1) 4 _ _ _ y2
            have t5 := cell_of_row w3 (wL.heap.size + 1) 5 _ _ _ y2
            have t6 := cell_of_row w3 (wL.heap.size + 1) 6 _ _ _ y2
            have t7 := cell_of_row w3 (wL.heap.size + 1) 7 _ _ _ y2
            have t8 := cell_of_row w3 (wL.heap.size + 1) 8 _ _ _ y2
            have t9 := cell_of_row w3 (wL.heap.size + 1) 9 _ _ _ y2
            have t10 := cell_of_row w3 (wL.heap.size + 1) 10 _ _ _ y2
            have z6 := frozen_of_block y2 6
            have z7 := frozen_of_block y2 7
            have z8 := frozen_of_block y2 8
            have z9 := frozen_of_block y2 9
            have z10 := frozen_of_block y2 10
            have HY := Lib.hid (And.intro y1 (And.intro y2 (And.intro y4 y6)))
            simp only [List.getElem?_toArray, List.getElem?_cons_zero, List.getElem?_cons_succ] at t0 t1 t2 t3 t4 t5 t6 t7 t8 t9 t10
            clear y1 y2 y4 y6 HAft e0 e1 e2 e3 e4 e5 e6 e7 e8 e9 e10 e11 hb3
            go_region
            all_goals
              obtain ⟨y1, y2, y4, y6⟩ := HY.out
              obtain ⟨Y, hY⟩ : ∃ Y, Y = (((((w3.setCell ⟨wL.heap.size + 1, 6, none⟩ (.int .i64 q)).setCell ⟨wL.heap.size + 1, 7, none⟩ (.bool true)).setCell ⟨wL.heap.size + 1, 8, none⟩ (.int .i64 ycode)).setCell ⟨wL.heap.size + 1, 9, none⟩ (.int .i64 ysize)).setCell ⟨wL.heap.size + 1, 10, none⟩ (.slice tA yrd.length tc)).drew := ⟨_, rfl⟩
              have v1 := Own.heap_setCell_same y2 6 (.int .i64 q)
              have v2 := Own.heap_setCell_same v1 7 (.bool true)
              have v3 := Own.heap_setCell_same v2 8 (.int .i64 ycode)
              have v4 := Own.heap_setCell_same v3 9 (.int .i64 ysize)
              have v5 := Own.heap_setCell_same v4 10 (.slice tA yrd.length tc)
              have hch : Chg [wL.heap.size + 1] w3 Y := by rw [hY]; exact chg_set5 w3 _ _ _ _ _ _ _ _ _ _ _
              have u2 : Y.heap[wL.heap.size + 1]? = some (.cells (spanC ⟨k, xs', a, d, n⟩ (.slice dA d.length dc) j q true ⟨ycode, ysize, yrd⟩ (.slice tA yrd.length tc)) 73 (0, 0)) := by rw [hY]; exact v5
              have u1 := (hch.block wL.heap.size (Array.getElem?_eq_some_iff.1 y1).1 (by simp)).trans y1
              have u6 : Below wL.heap.size wL Y := y4.trans (hch.below y4.size (by simp))
              rw [← hY]
              clear v1 v2 v3 v4 v5 hch hY y1 y2 y4 y6 f0 f1 f2 f3 f4 f5 f6 f7 f8 f9 f10 f11 z6 z7 z8 z9 z10
              clear t0 t1 t2 t3 t4 t5 t6 t7 t8 t9 t10
              have HOs : Hid (xs'.size ≤ 140737488351232) := HXo.out.call.s
              have hal : ∀ o, Below Y.heap.size Y (Y.alloc o) := fun o => (Below.refl _ _).alloc (Nat.le_refl _) o
              have hgY := HG.out.go u6
              obtain ⟨A0, N0, c0, g, cap, W, Z, hlk, hr, hkp, hput, f', hgZ⟩ := hgY.put (Nat.le_refl _) ⟨k, xs', a, d, n⟩ HOs.out HLen.out dA tA dc tc j q true ⟨ycode, ysize, yrd⟩ HRd.out HYr.out
              have lk1 := hlk Y.drew (Below.refl _ _).drew
              have lk2 := fun o => hlk (Y.alloc o).drew (hal o).drew
              have n0 := cell_of_row Y wL.heap.size 5 _ _ _ u1
              have n1 := fun o => cell_of_row (Y.alloc o) wL.heap.size 5 _ _ _ (((hal o).block _ (Array.getElem?_eq_some_iff.1 u1).1).trans u1)
              have n2 := cell_of_row W wL.heap.size 5 _ _ _ (hkp _ _ _ _ u1 (by decide))
              have t0 := cell_of_row Y (wL.heap.size + 1) 0 _ _ _ u2
              have t1 := cell_of_row Y (wL.heap.size + 1) 1 _ _ _ u2
              have t2 := cell_of_row Y (wL.heap.size + 1) 2 _ _ _ u2
              have t3 := cell_of_row Y (wL.heap.size + 1) 3 _ _ _ u2
              have t4 := cell_of_row Y (wL.heap.size + 1) 4 _ _ _ u2
              have t5 := cell_of_row Y (wL.heap.size + 1) 5 _ _ _ u2
              have t6 := cell_of_row Y (wL.heap.size + 1) 6 _ _ _ u2
              have t7 := cell_of_row Y (wL.heap.size + 1) 7 _ _ _ u2
              have t8 := cell_of_row Y (wL.heap.size + 1) 8 _ _ _ u2
              have t9 := cell_of_row Y (wL.heap.size + 1) 9 _ _ _ u2
              have t10 := cell_of_row Y (wL.heap.size + 1) 10 _ _ _ u2
              dsimp only [spanC, List.length_nil] at hr t0 t1 t2 t3 t4 t5 t6 t7 t8 t9 t10
              dsimp only at hput lk1 lk2
              simp only [List.getElem?_toArray, List.getElem?_cons_zero, List.getElem?_cons_succ] at n0 n1 n2 t0 t1 t2 t3 t4 t5 t6 t7 t8 t9 t10
              have HFin : Hid (∃ n f, GI w w.heap.size n (fun s => upTo xs s (j + 1)) f Z) := ⟨_, f', hgZ.eqv HSo.out⟩
              clear hgY hgZ hkp hlk hal u1 u2 u6 
              go_wp2_with fail
              go_region
              all_goals
                go_wp2_with fail
                go_roundw
                case rel => exact ⟨j + 1, by go_num, by omega, HFin.out⟩
                case measure => simp [intOf]; omega
          | true =>
            rw [if_pos hu] at hso
            have HSo : Hid ((fun s => upTo xs s (j + 1)) = fun s => if s = x.call.s then upTo xs s j ++ [⟨x.call, j, N, false, ⟨0, 0, []⟩⟩] else upTo xs s j) := by rw [← HN.out.1, ← hso]; exact hux
            clear hso hux HYr
            obtain ⟨xc, xk, xdone, xunk, ⟨k, xs', a, d, n⟩, ⟨code, size, rd⟩⟩ := x
            dsimp only at e0 e1 e2 e3 e4 e5 e6 e7 e8 e9 e10 e11 HXo HRd HLen HSo hd hI
            subst hd
            dsimp only [evC, spanC] at hI HAft
            have HI := Lib.hid hI
            clear hI
            obtain ⟨yc, yk, ydone, yunk, ycall, ⟨ycode, ysize, yrd⟩⟩ := y
            dsimp only at HCf hu
            subst hu
            go_wp2_with (go_at_call 33; refine HI.out.mono ?_; rintro e w3 ⟨rfl, hb3⟩; obtain ⟨y1, y2, y4, y6⟩ := HAft.out w3 hb3; obtain ⟨f0, f1, f2, f3, f4, f5, f6, f7, f8, f9, f10, f11⟩ := HCf.out w3 y6)
            obtain ⟨Y, hY⟩ : ∃ Y, Y = w3 := ⟨_, rfl⟩
            have u1 := y1
            rw [← hY] at u1
            have u2 : Y.heap[wL.heap.size + 1]? = some (.cells (spanC ⟨k, xs', a, d, n⟩ (.slice dA d.length dc) j N false ⟨0, 0, []⟩ (.slice none 0 0)) 73 (0, 0)) := by rw [hY]; exact y2
            have u6 : Below wL.heap.size wL Y := by rw [hY]; exact y4
            rw [← hY]
            clear hY y1 y2 y4 y6 HAft e0 e1 e2 e3 e4 e5 e6 e7 e8 e9 e10 e11 hb3 f0 f1 f2 f3 f4 f5 f6 f7 f8 f9 f10 f11
            have HOs : Hid (xs'.size ≤ 140737488351232) := HXo.out.call.s
            have hal : ∀ o, Below Y.heap.size Y (Y.alloc o) := fun o => (Below.refl _ _).alloc (Nat.le_refl _) o
            have hgY := HG.out.go u6
            obtain ⟨A0, N0, c0, g, cap, W, Z, hlk, hr, hkp, hput, f', hgZ⟩ := hgY.put (Nat.le_refl _) ⟨k, xs', a, d, n⟩ HOs.out HLen.out dA none dc 0 j N false ⟨0, 0, []⟩ HRd.out (.inl ⟨rfl, rfl⟩)
            have lk1 := hlk Y.drew (Below.refl _ _).drew
            have lk2 := fun o => hlk (Y.alloc o).drew (hal o).drew
            have n0 := cell_of_row Y wL.heap.size 5 _ _ _ u1
            have n1 := fun o => cell_of_row (Y.alloc o) wL.heap.size 5 _ _ _ (((hal o).block _ (Array.getElem?_eq_some_iff.1 u1).1).trans u1)
            have n2 := cell_of_row W wL.heap.size 5 _ _ _ (hkp _ _ _ _ u1 (by decide))
            have t0 := cell_of_row Y (wL.heap.size + 1) 0 _ _ _ u2
            have t1 := cell_of_row Y (wL.heap.size + 1) 1 _ _ _ u2
            have t2 := cell_of_row Y (wL.heap.size + 1) 2 _ _ _ u2
            have t3 := cell_of_row Y (wL.heap.size + 1) 3 _ _ _ u2
            have t4 := cell_of_row Y (wL.heap.size + 1) 4 _ _ _ u2
            have t5 := cell_of_row Y (wL.heap.size + 1) 5 _ _ _ u2
            have t6 := cell_of_row Y (wL.heap.size + 1) 6 _ _ _ u2
            have t7 := cell_of_row Y (wL.heap.size + 1) 7 _ _ _ u2
            have t8 := cell_of_row Y (wL.heap.size + 1) 8 _ _ _ u2
            have t9 := cell_of_row Y (wL.heap.size + 1) 9 _ _ _ u2
            have t10 := cell_of_row Y (wL.heap.size + 1) 10 _ _ _ u2
            dsimp only [spanC, List.length_nil] at hr t0 t1 t2 t3 t4 t5 t6 t7 t8 t9 t10
            dsimp only at hput lk1 lk2
            simp only [List.getElem?_toArray, List.getElem?_cons_zero, List.getElem?_cons_succ] at n0 n1 n2 t0 t1 t2 t3 t4 t5 t6 t7 t8 t9 t10
            have HFin : Hid (∃ n f, GI w w.heap.size n (fun s => upTo xs s (j + 1)) f Z) := ⟨_, f', hgZ.eqv HSo.out⟩
            clear hgY hgZ hkp hlk hal u1 u2 u6 
            go_region
            all_goals
              go_wp2_with fail
              go_roundw
              case rel => exact ⟨j + 1, by go_num, by omega, HFin.out⟩
              case measure => simp [intOf]; omega
        · rw [dif_neg hq] at hso
          rw [endI_none hq] at hI
          have HSo : Hid ((fun s => upTo xs s (j + 1)) = fun s => if s = x.call.s then upTo xs s j ++ [⟨x.call, j, N, false, ⟨0, 0, []⟩⟩] else upTo xs s j) := by rw [← HN.out.1, ← hso]; exact hux
          clear hso hux hq HAt
          obtain ⟨xc, xk, xdone, xunk, ⟨k, xs', a, d, n⟩, ⟨code, size, rd⟩⟩ := x
          dsimp only at e0 e1 e2 e3 e4 e5 e6 e7 e8 e9 e10 e11 HXo HRd HLen HSo hd hI
          subst hd
          dsimp only [evC, spanC] at hI HAft
          have HI := Lib.hid hI
          clear hI

          go_wp2_with (go_at_call 33; refine HI.out.mono ?_; rintro e w3 ⟨rfl, hb3⟩; obtain ⟨y1, y2, y4, y6⟩ := HAft.out w3 hb3)
          obtain ⟨Y, hY⟩ : ∃ Y, Y = w3 := ⟨_, rfl⟩
          have u1 := y1
          rw [← hY] at u1
          have u2 : Y.heap[wL.heap.size + 1]? = some (.cells (spanC ⟨k, xs', a, d, n⟩ (.slice dA d.length dc) j N false ⟨0, 0, []⟩ (.slice none 0 0)) 73 (0, 0)) := by rw [hY]; exact y2
          have u6 : Below wL.heap.size wL Y := by rw [hY]; exact y4
          rw [← hY]
          clear hY y1 y2 y4 y6 HAft e0 e1 e2 e3 e4 e5 e6 e7 e8 e9 e10 e11 hb3 
          have HOs : Hid (xs'.size ≤ 140737488351232) := HXo.out.call.s
          have hal : ∀ o, Below Y.heap.size Y (Y.alloc o) := fun o => (Below.refl _ _).alloc (Nat.le_refl _) o
          have hgY := HG.out.go u6
          obtain ⟨A0, N0, c0, g, cap, W, Z, hlk, hr, hkp, hput, f', hgZ⟩ := hgY.put (Nat.le_refl _) ⟨k, xs', a, d, n⟩ HOs.out HLen.out dA none dc 0 j N false ⟨0, 0, []⟩ HRd.out (.inl ⟨rfl, rfl⟩)
          have lk1 := hlk Y.drew (Below.refl _ _).drew
          have lk2 := fun o => hlk (Y.alloc o).drew (hal o).drew
          have n0 := cell_of_row Y wL.heap.size 5 _ _ _ u1
          have n1 := fun o => cell_of_row (Y.alloc o) wL.heap.size 5 _ _ _ (((hal o).block _ (Array.getElem?_eq_some_iff.1 u1).1).trans u1)
          have n2 := cell_of_row W wL.heap.size 5 _ _ _ (hkp _ _ _ _ u1 (by decide))
          have t0 := cell_of_row Y (wL.heap.size + 1) 0 _ _ _ u2
          have t1 := cell_of_row Y (wL.heap.size + 1) 1 _ _ _ u2
          have t2 := cell_of_row Y (wL.heap.size + 1) 2 _ _ _ u2
          have t3 := cell_of_row Y (wL.heap.size + 1) 3 _ _ _ u2
          have t4 := cell_of_row Y (wL.heap.size + 1) 4 _ _ _ u2
          have t5 := cell_of_row Y (wL.heap.size + 1) 5 _ _ _ u2
          have t6 := cell_of_row Y (wL.heap.size + 1) 6 _ _ _ u2
          have t7 := cell_of_row Y (wL.heap.size + 1) 7 _ _ _ u2
          have t8 := cell_of_row Y (wL.heap.size + 1) 8 _ _ _ u2
          have t9 := cell_of_row Y (wL.heap.size + 1) 9 _ _ _ u2
          have t10 := cell_of_row Y (wL.heap.size + 1) 10 _ _ _ u2
          dsimp only [spanC, List.length_nil] at hr t0 t1 t2 t3 t4 t5 t6 t7 t8 t9 t10
          dsimp only at hput lk1 lk2
          simp only [List.getElem?_toArray, List.getElem?_cons_zero, List.getElem?_cons_succ] at n0 n1 n2 t0 t1 t2 t3 t4 t5 t6 t7 t8 t9 t10
          have HFin : Hid (∃ n f, GI w w.heap.size n (fun s => upTo xs s (j + 1)) f Z) := ⟨_, f', hgZ.eqv HSo.out⟩
          clear hgY hgZ hkp hlk hal u1 u2 u6 
          go_region
          all_goals
            go_wp2_with fail
            go_roundw
            case rel => exact ⟨j + 1, by go_num, by omega, HFin.out⟩
            case measure => simp [intOf]; omega
    · have HG := Lib.hid hgi
      obtain rfl : j = N := by omega
      clear hgi
      go_wp2_with fail
      go_ret
      exact ⟨rfl, nn, f, by rw [HN.out.1]; exact HG.out⟩
end Go.Proofs.Ytbbbdhpihcbmmaa
