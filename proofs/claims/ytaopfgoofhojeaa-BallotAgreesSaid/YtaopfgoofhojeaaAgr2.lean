/- One decree: what each step of the law leaves in memory. -/
import Derived.Test.YtaopfgoofhojeaaAgr1
namespace Go.Proofs.Ytaopfgoofhojeaa
open Go.RowKit Own
open Go.Maps (Keyed)

structure AM (w0 : World) (n ab pb sb : Nat) (acc : Nat → Acc) (pr : Nat → Prp) (mp : Nat → Option Nat) (seen : Bal) (w : World) : Prop where
  accs : AccsIs w ab n acc
  prs : PrsIs w pb pr mp
  maps : MapsIs w n pr mp
  seen : w.heap[sb]? = some (.cells #[.int .i64 seen.r, .int .i64 seen.m] 23 (0, 0))
  ga : w0.heap.size ≤ ab
  gp : w0.heap.size ≤ pb
  gs : w0.heap.size ≤ sb
  gm : ∀ m mb, m < 7 → mp m = some mb → w0.heap.size ≤ mb
  below : Below w0.heap.size w0 w
section
variable {w0 w w' : World} {n ab pb sb : Nat} {acc : Nat → Acc} {pr : Nat → Prp} {mp : Nat → Option Nat} {seen : Bal}
theorem AM.lt (h : AM w0 n ab pb sb acc pr mp seen w) : ab < w.heap.size ∧ pb < w.heap.size ∧ sb < w.heap.size := by
  obtain ⟨c1, h1⟩ := h.accs.row
  obtain ⟨c2, h2⟩ := h.prs.row
  exact ⟨(Array.getElem?_eq_some_iff.1 h1).1, (Array.getElem?_eq_some_iff.1 h2).1, (Array.getElem?_eq_some_iff.1 h.seen).1⟩
theorem AM.go (h : AM w0 n ab pb sb acc pr mp seen w) (hb : Below w.heap.size w w') : AM w0 n ab pb sb acc pr mp seen w' := by
  have hk := KeepU.below hb
  exact ⟨h.accs.keep (hb.block _ h.lt.1) hk, h.prs.keep (hb.block _ h.lt.2.1) hk, h.maps.keep (fun mb _ _ hm => hb.block mb (Array.getElem?_eq_some_iff.1 hm).1) hk, (hb.block _ h.lt.2.2).trans h.seen, h.ga, h.gp, h.gs, h.gm, h.below.trans (hb.mono h.below.size)⟩
theorem AM.ne (h : AM w0 n ab pb sb acc pr mp seen w) : ab ≠ pb ∧ ab ≠ sb ∧ pb ≠ sb := by
  obtain ⟨c1, h1⟩ := h.accs.row
  obtain ⟨c2, h2⟩ := h.prs.row
  have h3 := h.seen
  refine ⟨?_, ?_, ?_⟩
  · rintro rfl; rw [h1] at h2; cases h2
  · rintro rfl; rw [h1] at h3; cases h3
  · rintro rfl; rw [h2] at h3; cases h3
/-- one acceptor is another one -/
theorem AM.setAcc (h : AM w0 n ab pb sb acc pr mp seen w) {k : Nat} (hk : k < n) (y : Acc) {A : Option Addr} {c : Nat} (hy : BO w (.slice A y.l.length c) y.l) :
    AM w0 n ab pb sb (upd acc k y) pr mp seen (w.setCells ab (k * 5) (accVs y (.slice A y.l.length c))) ∧ KeepU w (w.setCells ab (k * 5) (accVs y (.slice A y.l.length c))) := by
  obtain ⟨h1, h2⟩ := h.accs.set hk y hy
  obtain ⟨n1, n2, n3⟩ := h.ne
  refine ⟨⟨h1, h.prs.keep (heap_setCells_other _ _ _ _ (Ne.symm n1)) h2, h.maps.keep (fun mb es c hm => heap_setCells_other _ _ _ _ ?_) h2, (heap_setCells_other _ _ _ _ (Ne.symm n2)).trans h.seen, h.ga, h.gp, h.gs, h.gm, below_cells h.below h.ga _ _⟩, h2⟩
  rintro rfl
  obtain ⟨cs, hc⟩ := h.accs.row
  rw [hc] at hm; cases hm
/-- a proposer begins anew -/
theorem AM.fresh (h : AM w0 n ab pb sb acc pr mp seen w) {m0 mb : Nat} (hm0 : m0 < 7) (p : Prp) (hp : ∀ k, p.f k = none) (hv : p.v = []) (hnew : h.lt.1 = h.lt.1 → w0.heap.size ≤ mb) (hmb : w.heap[mb]? = some (.map #[] 0)) (hfar : ∀ m, m < 7 → mp m ≠ some mb) :
    AM w0 n ab pb sb acc (upd pr m0 p) (upd mp m0 (some mb)) seen (w.setCells pb (m0 * 5) (prVs p (some mb) (.slice none 0 0))) ∧ KeepU w (w.setCells pb (m0 * 5) (prVs p (some mb) (.slice none 0 0))) := by
  have hl : p.v.length = 0 := by rw [hv]; rfl
  have hy : BO w (.slice none p.v.length 0) p.v := by rw [hl, hv]; exact World.ownsRow_nil _ _ _ _
  have hset := h.prs.set hm0 p (some mb) hy
  rw [hl] at hset
  obtain ⟨h1, h2⟩ := hset
  obtain ⟨n1, n2, n3⟩ := h.ne
  obtain ⟨cs, hc⟩ := h.prs.row
  have hmne : ∀ (b : Nat) (es : Array MapEntry) (c : Nat), w.heap[b]? = some (.map es c) → b ≠ pb := fun b es c hm => by rintro rfl; rw [hc] at hm; cases hm
  have hkeep := h.maps.keep (w' := w.setCells pb (m0 * 5) (prVs p (some mb) (.slice none 0 0))) (fun b es c hm => heap_setCells_other _ _ _ _ (hmne b es c hm)) h2
  refine ⟨⟨h.accs.keep (heap_setCells_other _ _ _ _ n1) h2, h1, ⟨fun m hm7 => ?_, fun m m' b hm7 hm7' e1 e2 => ?_⟩, (heap_setCells_other _ _ _ _ (Ne.symm n3)).trans h.seen, h.ga, h.gp, h.gs, fun m b hm7 e => ?_, below_cells h.below h.gp _ _⟩, h2⟩
  · by_cases e : m = m0
    · subst e
      rw [upd_same, upd_same]
      have hpf : p.f = fun _ => none := funext hp
      rw [hpf, qc_none]
      exact .inr ⟨mb, noKeys, rfl, ⟨#[], 0, (heap_setCells_other _ _ _ _ (hmne _ _ _ hmb)).trans hmb, ⟨Go.MapKept.stamped_empty 0, Nat.le_refl _, by simp, by simp [noKeys]⟩, rfl⟩, PMap.none _⟩
    · rw [upd_other _ _ e, upd_other _ _ e]; exact hkeep.at_ m hm7
  · by_cases e : m = m0
    · subst e
      rw [upd_same] at e1
      cases e1
      by_cases e3 : m' = m
      · exact e3.symm
      · rw [upd_other _ _ e3] at e2
        exact absurd e2 (hfar m' hm7')
    · rw [upd_other _ _ e] at e1
      by_cases e3 : m' = m0
      · subst e3
        rw [upd_same] at e2
        cases e2
        exact absurd e1 (hfar m hm7)
      · rw [upd_other _ _ e3] at e2
        exact h.maps.apart m m' b hm7 hm7' e1 e2
  · by_cases e1 : m = m0
    · subst e1
      rw [upd_same] at e
      cases e
      exact hnew rfl
    · rw [upd_other _ _ e1] at e
      exact h.gm m b hm7 e
/-- a map of another world is not one that was just made -/
theorem AM.far (h : AM w0 n ab pb sb acc pr mp seen w) {mb : Nat} (hmb : w.heap.size ≤ mb) : ∀ m, m < 7 → mp m ≠ some mb := fun m hm e => by
  obtain ⟨es, c, hh⟩ := h.maps.isMap hm e
  have := (Array.getElem?_eq_some_iff.1 hh).1
  omega
/-- the greatest ballot seen -/
theorem AM.saw (h : AM w0 n ab pb sb acc pr mp seen w) (b : Bal) : AM w0 n ab pb sb acc pr mp b ((w.setCell ⟨sb, 0, none⟩ (.int .i64 b.r)).setCell ⟨sb, 1, none⟩ (.int .i64 b.m)) ∧ KeepU w ((w.setCell ⟨sb, 0, none⟩ (.int .i64 b.r)).setCell ⟨sb, 1, none⟩ (.int .i64 b.m)) := by
  obtain ⟨n1, n2, n3⟩ := h.ne
  have hku := (KeepU.cell h.seen (by decide) 0 (.int .i64 b.r)).trans (KeepU.cell (Own.heap_setCell_same h.seen _ _) (by decide) 1 (.int .i64 b.m))
  have hoth : ∀ g, g ≠ sb → ((w.setCell ⟨sb, 0, none⟩ (.int .i64 b.r)).setCell ⟨sb, 1, none⟩ (.int .i64 b.m)).heap[g]? = w.heap[g]? := fun g hg => (Below.heap_setCell _ _ _ _ hg).trans (Below.heap_setCell _ _ _ _ hg)
  refine ⟨⟨h.accs.keep (hoth _ n2) hku, h.prs.keep (hoth _ n3) hku, h.maps.keep (fun mb es c hm => hoth _ ?_) hku, Own.heap_setCell_same (Own.heap_setCell_same h.seen 0 _) 1 _, h.ga, h.gp, h.gs, h.gm, (h.below.setCell h.gs _).setCell h.gs _⟩, hku⟩
  rintro rfl
  rw [h.seen] at hm; cases hm
theorem keyInt {k : Nat} (hk : k ≤ 1000) : ∃ kl, keyOf Try.prog 3 (.int .i64 (k : Int)) = some kl := by
  have hw : (Lit.int .i64 (k : Int)).wf = true := by
    have h1 : (-9223372036854775808 : Int) ≤ (k : Int) := by omega
    have h2 : (k : Int) ≤ 9223372036854775807 := by omega
    simpa [Lit.wf, IntKind.min, IntKind.max, IntKind.signed, IntKind.bits] using And.intro h1 h2
  simp [keyOf, mapKey, Try.underlying3, hw]
theorem keyedInt : Keyed Try.prog 3 := Go.Maps.int_keyed Try.underlying3
/-- a promise is noted -/
theorem AM.note (h : AM w0 n ab pb sb acc pr mp seen w) {m0 mb k : Nat} (hn : n ≤ 7) (hm0 : m0 < 7) (hmb : mp m0 = some mb) (hk : k < n) (hg : (pr m0).f k = none) (x : Acc) {A : Option Addr} {c : Nat} (hx : BO w (.slice A x.l.length c) x.l) :
    ∃ w', (Instr.mapUpdate 39 (.map (some mb)) (.int .i64 k) (.agg #[.int .i64 x.p.r, .int .i64 x.p.m, .int .i64 x.a.r, .int .i64 x.a.m, .slice A x.l.length c])).run Try.prog w = .ok () w' ∧
      AM w0 n ab pb sb acc (upd pr m0 ⟨(pr m0).b, upd (pr m0).f k (some x), (pr m0).v, (pr m0).asked⟩) mp seen w' ∧ Chg [mb] w w' ∧ KeepU w w' := by
  rcases h.maps.at_ m0 hm0 with ⟨h0, _⟩ | ⟨mb', f, h0, h1, h2⟩
  · rw [hmb] at h0; cases h0
  · rw [hmb] at h0; cases h0
    obtain ⟨kl, hkl⟩ := keyInt (k := k) (by omega)
    obtain ⟨w', e1, e2, e3⟩ := h1.put keyedInt Try.underlying39 (val := .agg (accVs x (.slice A x.l.length c)).toArray) hkl ((h2 k).1 hg)
    obtain ⟨es, cl, hh⟩ := h.maps.isMap hm0 hmb
    have hku := KeepU.map hh e3
    have hnm : ∀ (g : Nat) (cs : Array Value) (t : TypeId), w.heap[g]? = some (.cells cs t (0, 0)) → w'.heap[g]? = w.heap[g]? := fun g cs t hg => e3.block g (Array.getElem?_eq_some_iff.1 hg).1 (by rw [List.mem_singleton]; rintro rfl; rw [hh] at hg; cases hg)
    obtain ⟨c1, r1⟩ := h.accs.row
    obtain ⟨c2, r2⟩ := h.prs.row
    exact ⟨w', e1, ⟨h.accs.keep (hnm _ _ _ r1) hku, (h.prs.same m0 _).keep (hnm _ _ _ r2) hku, h.maps.put hm0 hmb hk x hg e3 e2 ((h2.keep hku).put k x (hx.keep hku)) _ _ _, (hnm _ _ _ h.seen).trans h.seen, h.ga, h.gp, h.gs, h.gm, h.below.trans (e3.below h.below.size (by intro q hq; rw [List.mem_singleton.1 hq]; exact h.gm m0 mb hm0 hmb))⟩, e3, hku⟩
/-- a value is asked for -/
theorem AM.ask (h : AM w0 n ab pb sb acc pr mp seen w) {m0 : Nat} (hm0 : m0 < 7) (l : List UInt8) {A : Option Addr} {c : Nat} (hy : BO w (.slice A l.length c) l) :
    AM w0 n ab pb sb acc (upd pr m0 ⟨(pr m0).b, (pr m0).f, l, true⟩) mp seen ((w.setCell ⟨pb, m0 * 5 + 3, none⟩ (.slice A l.length c)).setCell ⟨pb, m0 * 5 + 4, none⟩ (.bool true)) ∧ KeepU w ((w.setCell ⟨pb, m0 * 5 + 3, none⟩ (.slice A l.length c)).setCell ⟨pb, m0 * 5 + 4, none⟩ (.bool true)) := by
  obtain ⟨h1, h2⟩ := h.prs.ask hm0 l hy
  obtain ⟨n1, n2, n3⟩ := h.ne
  obtain ⟨cs, hc⟩ := h.prs.row
  have hoth : ∀ g, g ≠ pb → ((w.setCell ⟨pb, m0 * 5 + 3, none⟩ (.slice A l.length c)).setCell ⟨pb, m0 * 5 + 4, none⟩ (.bool true)).heap[g]? = w.heap[g]? := fun g hg => (Below.heap_setCell _ _ _ _ hg).trans (Below.heap_setCell _ _ _ _ hg)
  refine ⟨⟨h.accs.keep (hoth _ n1) h2, h1, (h.maps.say m0 _ _ _).keep (fun mb es c hm => hoth _ ?_) h2, (hoth _ (Ne.symm n3)).trans h.seen, h.ga, h.gp, h.gs, h.gm, (h.below.setCell h.gp _).setCell h.gp _⟩, h2⟩
  rintro rfl
  rw [hc] at hm; cases hm
end

/-- a look-up that tells whether it found -/
theorem MapIs.look2 {P : Program} {k : TypeId} {b n : Nat} {f : Value → Option Value} {w : World} {t e : TypeId} (h : MapIs P k b n f w) (K : Keyed P k) (ht : P.underlying t = some (.map k e)) {z : Value} (hz : (zeroValue e).run P w = .ok z w) {key : Value} {kl : Lit} (hkey : keyOf P k key = some kl) :
    (Instr.lookup t (.map (some b)) key true).run P w = .ok (.tuple #[(f key).getD z, .bool (f key).isSome]) w := by
  obtain ⟨es, clock, hb, hs, hn, hk, hf⟩ := h
  rcases K.find w hkey es.toList hk with ⟨h1, h2⟩ | ⟨j, e0, h1, h2, h3⟩
  · have hnone : f key = none := by
      cases hv : f key with
      | none => rfl
      | some v =>
        obtain ⟨x, hx, hxk, _⟩ := (hf key v).1 hv
        exact absurd hxk (h2 x hx)
    rw [hnone]
    simp [Instr.lookup, run_underlying ht, MapKept.run_getObj_map hb, K.check w _ hkey, h1, hz, Result.andThen]
  · have hsome : f key = some e0.val := (hf key e0.val).2 ⟨e0, List.mem_of_getElem? h2, h3, rfl⟩
    rw [hsome]
    simp [Instr.lookup, run_underlying ht, MapKept.run_getObj_map hb, K.check w _ hkey, h1, Result.andThen]
theorem zero_acc (w : World) : (zeroValue 26).run Try.prog w = .ok (.agg #[.int .i64 0, .int .i64 0, .int .i64 0, .int .i64 0, .slice none 0 0]) w := by kernel_rfl
theorem infoAcc : (Try.prog.info? 26).map (fun i => (i.zero, i.size, i.bytes)) = some (some (.agg #[.int .i64 0, .int .i64 0, .int .i64 0, .int .i64 0, .slice none 0 0]), 5, 56) := by kernel_rfl
theorem infoPr : (Try.prog.info? 41).map (fun i => (i.zero, i.size, i.bytes)) = some (some (.agg #[.int .i64 0, .int .i64 0, .map none, .slice none 0 0, .bool false]), 5, 56) := by kernel_rfl

theorem made_at (z : Array Value) (hz : z.size = 5) {n k j : Nat} (hk : k < n) (hj : j < 5) : (madeCells z (n * 5))[k * 5 + j]? = z[j]? := by
  have hlt : k * 5 + j < n * 5 := by omega
  have hmod : (k * 5 + j) % 5 = j := by omega
  simp [madeCells, hlt, hz, hmod, hj]
def accsO (n : Nat) : Obj := .cells (madeCells #[.int .i64 0, .int .i64 0, .int .i64 0, .int .i64 0, .slice none 0 0] (n * 5)) 26
def prsO : Obj := .cells (madeCells #[.int .i64 0, .int .i64 0, .map none, .slice none 0 0, .bool false] (7 * 5)) 41
theorem run_accs (n : Nat) (hn : n ≤ 7) (w : World) : (Instr.makeSlice 34 (.int .i64 n) (.int .i64 n)).run Try.prog w = .ok (.slice (some ⟨w.heap.size, 0, none⟩) n n) (w.alloc (accsO n)) := by
  obtain ⟨i0, hi, hz0, hz1, hz2⟩ := info_parts infoAcc
  have := run_make (P := Try.prog) w 34 26 i0 _ Try.underlying34 hi hz0 .i64 .i64 n n (by omega) (Int.le_refl _) (by rw [hz2]; omega) (by omega)
  rw [this, hz1]
  simp [accsO, Value.cells]
theorem run_prs (w : World) : (Instr.makeSlice 35 (.int .i64 7) (.int .i64 7)).run Try.prog w = .ok (.slice (some ⟨w.heap.size, 0, none⟩) 7 7) (w.alloc prsO) := by
  obtain ⟨i0, hi, hz0, hz1, hz2⟩ := info_parts infoPr
  have := run_make (P := Try.prog) w 35 41 i0 _ Try.underlying35 hi hz0 .i64 .i64 7 7 (by omega) (Int.le_refl _) (by rw [hz2]; omega) (by omega)
  rw [this, hz1]
  simp [prsO, Value.cells]
theorem AM.start (w : World) (n : Nat) : AM w n w.heap.size (w.heap.size + 1) (w.heap.size + 2) (fun _ => ⟨B0, B0, []⟩) (fun _ => ⟨B0, fun _ => none, [], false⟩) (fun _ => none) B0 (((w.alloc (accsO n)).alloc prsO).alloc (.cells #[.int .i64 0, .int .i64 0] 23)) := by
  obtain ⟨wa, ha⟩ : ∃ wa, wa = w.alloc (accsO n) := ⟨_, rfl⟩
  obtain ⟨wb, hb⟩ : ∃ wb, wb = wa.alloc prsO := ⟨_, rfl⟩
  obtain ⟨wc, hc⟩ : ∃ wc, wc = wb.alloc (.cells #[.int .i64 0, .int .i64 0] 23) := ⟨_, rfl⟩
  rw [← ha, ← hb, ← hc]
  have sa : wa.heap.size = w.heap.size + 1 := by rw [ha]; exact Array.size_push _
  have sb : wb.heap.size = w.heap.size + 2 := by rw [hb]; have : (wa.alloc prsO).heap.size = wa.heap.size + 1 := Array.size_push _; omega
  have b0 : Below w.heap.size w wa := by rw [ha]; exact (Below.refl _ _).alloc (Nat.le_refl _) _
  have b1 : Below wa.heap.size wa wb := by rw [hb]; exact (Below.refl _ _).alloc (Nat.le_refl _) _
  have b2 : Below wb.heap.size wb wc := by rw [hc]; exact (Below.refl _ _).alloc (Nat.le_refl _) _
  have b12 := b1.trans (b2.mono b1.size)
  have x0 : wa.heap[w.heap.size]? = some (accsO n) := by rw [ha]; exact heap_alloc_new w _
  have x1 : wb.heap[w.heap.size + 1]? = some prsO := by rw [hb, ← sa]; exact heap_alloc_new wa _
  have x2 : wc.heap[w.heap.size + 2]? = some (.cells #[.int .i64 0, .int .i64 0] 23 (0, 0)) := by rw [hc, ← sb]; exact heap_alloc_new wb _
  have y0 := (b12.block _ (by omega)).trans x0
  have y1 := (b2.block _ (by omega)).trans x1
  refine ⟨⟨⟨_, y0⟩, fun k hk => ⟨none, 0, fun j u hu => ?_, World.ownsRow_nil _ _ _ _⟩⟩, ⟨⟨_, y1⟩, fun m hm => ⟨none, 0, fun j u hu => ?_, World.ownsRow_nil _ _ _ _⟩⟩, ⟨fun _ _ => .inl ⟨rfl, fun _ => rfl⟩, fun _ _ _ _ _ h => by cases h⟩, x2, Nat.le_refl _, by omega, by omega, fun _ _ _ h => (by cases h), b0.trans (b12.mono b0.size)⟩
  · have hj : j < 5 := (List.getElem?_eq_some_iff.1 hu).1
    rw [cell_of_row _ _ (k * 5 + j) _ _ _ y0, made_at _ rfl hk hj]
    rw [← Array.getElem?_toList]; exact hu
  · have hj : j < 5 := (List.getElem?_eq_some_iff.1 hu).1
    rw [cell_of_row _ _ (m * 5 + j) _ _ _ y1, made_at _ rfl hm hj]
    rw [← Array.getElem?_toList]; exact hu
/-- those told, in a row -/
def cellsA (L : List (Acc × Value)) : List Value := L.flatMap fun p => accVs p.1 p.2
theorem cellsA_snoc (L : List (Acc × Value)) (x : Acc) (v : Value) : cellsA (L ++ [(x, v)]) = cellsA L ++ accVs x v := by simp [cellsA]
theorem cellsA_at : ∀ (L : List (Acc × Value)) (i : Nat) (hi : i < L.length) (j : Nat), j < 5 → (cellsA L)[i * 5 + j]? = (accVs (L[i]'hi).1 (L[i]'hi).2)[j]?
  | [], i, hi, _, _ => by cases hi
  | p :: L, 0, _, j, hj => by
    have h5 : (accVs p.1 p.2).length = 5 := rfl
    simp only [cellsA, List.flatMap_cons, Nat.zero_mul, Nat.zero_add]
    rw [List.getElem?_append_left (by omega)]; rfl
  | p :: L, i + 1, hi, j, hj => by
    have h5 : (accVs p.1 p.2).length = 5 := rfl
    have ih := cellsA_at L i (by simpa using hi) j hj
    simp only [cellsA, List.flatMap_cons] at ih ⊢
    rw [List.getElem?_append_right (by omega), show (i + 1) * 5 + j - (accVs p.1 p.2).length = i * 5 + j by omega, ih]; rfl
def ToldOk (w : World) (L : List (Acc × Value)) : Prop := ∀ p ∈ L, ∃ A c, p.2 = .slice A p.1.l.length c ∧ BO w p.2 p.1.l
theorem ToldOk.keep {w w' : World} {L : List (Acc × Value)} (h : ToldOk w L) (hk : KeepU w w') : ToldOk w' L := fun p hp => by
  obtain ⟨A, c, h1, h2⟩ := h p hp
  exact ⟨A, c, h1, h2.keep hk⟩
theorem KeepU.grown {W W' : World} {B size n : Nat} {e : TypeId} {v : Value} {xs : List Value} (h : W.ownsRow B e size v n xs) (he : e ≠ 5) (hg : W.grownBy W' v.ownBlock) : KeepU W W' := fun g cur hgc => by
  refine hg.block g (Array.getElem?_eq_some_iff.1 hgc).1 ?_
  intro hh
  obtain ⟨cur2, h2⟩ := own_type h hh.symm
  rw [hgc] at h2; cases h2; exact he rfl
theorem reads_told {w : World} {B : Nat} {v : Value} {L : List (Acc × Value)} (h : w.ownsRow B 26 5 v L.length (cellsA L)) (hL : ToldOk w L) : ReadsAccs w v (L.map Prod.fst) := by
  rcases h.2 with ⟨rfl, h0⟩ | ⟨g, cap, cur, rfl, hg, hh, hc, hm, hs, hx⟩
  · left
    exact ⟨by rw [List.eq_nil_of_length_eq_zero h0]; rfl, none, 0, rfl⟩
  · right
    refine ⟨g, 0, cap, by simp, fun i hi => ?_⟩
    have hiL : i < L.length := by simpa using hi
    obtain ⟨A, c, hv, hb⟩ := hL _ (List.getElem_mem hiL)
    have cell : ∀ j u, j < 5 → (accVs (L[i]'hiL).1 (L[i]'hiL).2)[j]? = some u → w.cell? ⟨g, 0 + i * 5 + j, none⟩ = some u := fun j u hj hu => by
      have := h.cells (g := g) rfl (i * 5 + j) u (by rw [cellsA_at L i hiL j hj]; exact hu)
      rw [Addr.add_lit] at this
      rw [Nat.zero_add]
      rwa [Nat.zero_add] at this
    have he : (L.map Prod.fst)[i]'hi = (L[i]'hiL).1 := by simp
    rw [he]
    refine ⟨A, c, cell 0 _ (by omega) rfl, cell 1 _ (by omega) rfl, cell 2 _ (by omega) rfl, cell 3 _ (by omega) rfl, ?_, ?_⟩
    · exact cell 4 _ (by omega) (by rw [← hv]; rfl)
    · rw [← hv]; exact ReadsB.own hb
theorem accVs_one (x : Acc) (A : Option Addr) (n c : Nat) : ∀ u ∈ accVs x (.slice A n c), u.oneCell' = true := by
  intro u hu
  simp only [accVs, List.mem_cons, List.mem_nil_iff, or_false] at hu
  rcases hu with rfl | rfl | rfl | rfl | rfl <;> rfl
/-- what the map says of one -/
theorem AM.lookUp {w0 w : World} {n ab pb sb : Nat} {acc : Nat → Acc} {pr : Nat → Prp} {mp : Nat → Option Nat} {seen : Bal} (h : AM w0 n ab pb sb acc pr mp seen w) {m mb k : Nat} (hm : m < 7) (hmb : mp m = some mb) (hk : k ≤ 1000) :
    ((pr m).f k = none ∧ (Instr.lookup 39 (.map (some mb)) (.int .i64 k) true).run Try.prog w = .ok (.tuple #[.agg #[.int .i64 0, .int .i64 0, .int .i64 0, .int .i64 0, .slice none 0 0], .bool false]) w) ∨
    ∃ x A c, (pr m).f k = some x ∧ BO w (.slice A x.l.length c) x.l ∧ (Instr.lookup 39 (.map (some mb)) (.int .i64 k) true).run Try.prog w = .ok (.tuple #[.agg #[.int .i64 x.p.r, .int .i64 x.p.m, .int .i64 x.a.r, .int .i64 x.a.m, .slice A x.l.length c], .bool true]) w := by
  rcases h.maps.at_ m hm with ⟨h0, _⟩ | ⟨mb', f, h0, h1, h2⟩
  · rw [hmb] at h0; cases h0
  · rw [hmb] at h0; cases h0
    obtain ⟨kl, hkl⟩ := keyInt hk
    have hl := h1.is.look2 keyedInt Try.underlying39 (zero_acc w) hkl
    cases hf : (pr m).f k with
    | none => left; rw [(h2 k).1 hf] at hl; exact ⟨rfl, hl⟩
    | some x =>
      right
      obtain ⟨A, c, e1, e2⟩ := (h2 k).2 x hf
      rw [e1] at hl
      exact ⟨x, A, c, rfl, e2, hl⟩

end Go.Proofs.Ytaopfgoofhojeaa
