/- One decree: what lies in memory. -/
import Derived.Test.YtaopfgoofhojeaaAgr0
namespace Go.Proofs.Ytaopfgoofhojeaa
open Go.RowKit Own
open Go.Maps (Keyed)
open Go.MapKept (Stamped stamped_push stamped_empty)

/-- no bytes have turned -/
def KeepU (w w' : World) : Prop := ∀ (g : Nat) (cur : Array Value), w.heap[g]? = some (.cells cur 5 (0, 0)) → w'.heap[g]? = w.heap[g]?
abbrev BO (w : World) (v : Value) (l : List UInt8) : Prop := w.ownsRow 0 5 1 v l.length (u8s l)
theorem BO.keep {w w' : World} {v : Value} {l : List UInt8} (h : BO w v l) (hk : KeepU w w') : BO w' v l :=
  own_same h fun g hg => by
    obtain ⟨cur, hc⟩ := own_type h hg
    exact hk g cur hc
theorem KeepU.below {w w' : World} (h : Below w.heap.size w w') : KeepU w w' := fun g _ hg => h.block g (Array.getElem?_eq_some_iff.1 hg).1
theorem KeepU.trans {a b c : World} (h : KeepU a b) (k : KeepU b c) : KeepU a c := fun g cur hg => (k g cur ((h g cur hg).trans hg)).trans (h g cur hg)
theorem KeepU.cells {w : World} {b : Nat} {cs : Array Value} {t : TypeId} {fr : Nat × Nat} (h : w.heap[b]? = some (.cells cs t fr)) (ht : t ≠ 5) (o : Nat) (vs : List Value) : KeepU w (w.setCells b o vs) := fun g cur hg =>
  heap_setCells_other vs o w g (by rintro rfl; rw [h] at hg; cases hg; exact ht rfl)
theorem KeepU.cell {w : World} {b : Nat} {cs : Array Value} {t : TypeId} {fr : Nat × Nat} (h : w.heap[b]? = some (.cells cs t fr)) (ht : t ≠ 5) (o : Nat) (v : Value) : KeepU w (w.setCell ⟨b, o, none⟩ v) := fun g cur hg =>
  Below.heap_setCell _ _ _ _ (by rintro rfl; rw [h] at hg; cases hg; exact ht rfl)
theorem KeepU.map {w w' : World} {mb : Nat} {es : Array MapEntry} {c : Nat} (h : w.heap[mb]? = some (.map es c)) (hc : Chg [mb] w w') : KeepU w w' := fun g cur hg =>
  hc.block g (Array.getElem?_eq_some_iff.1 hg).1 (by rw [List.mem_singleton]; rintro rfl; rw [h] at hg; cases hg)

def accVs (x : Acc) (v : Value) : List Value := [.int .i64 x.p.r, .int .i64 x.p.m, .int .i64 x.a.r, .int .i64 x.a.m, v]
def AccAtO (w : World) (b o : Nat) (x : Acc) : Prop := ∃ A c, (∀ j u, (accVs x (.slice A x.l.length c))[j]? = some u → w.cell? ⟨b, o + j, none⟩ = some u) ∧ BO w (.slice A x.l.length c) x.l
theorem AccAtO.keep {w w' : World} {b o : Nat} {x : Acc} (h : AccAtO w b o x) (hb : w'.heap[b]? = w.heap[b]?) (hk : KeepU w w') : AccAtO w' b o x := by
  obtain ⟨A, c, h1, h2⟩ := h
  exact ⟨A, c, fun j u hu => (World.cell?_of_block (a := ⟨b, o + j, none⟩) hb).trans (h1 j u hu), h2.keep hk⟩
theorem AccAtO.at_ {w : World} {b o : Nat} {x : Acc} (h : AccAtO w b o x) : AccAt w b o x := by
  obtain ⟨A, c, h1, h2⟩ := h
  exact ⟨A, c, h1 0 _ rfl, h1 1 _ rfl, h1 2 _ rfl, h1 3 _ rfl, h1 4 _ rfl, ReadsB.own h2⟩
structure AccsIs (w : World) (ab n : Nat) (acc : Nat → Acc) : Prop where
  row : ∃ cs, w.heap[ab]? = some (.cells cs 26 (0, 0))
  at_ : ∀ k, k < n → AccAtO w ab (k * 5) (acc k)
theorem AccsIs.keep {w w' : World} {ab n : Nat} {acc : Nat → Acc} (h : AccsIs w ab n acc) (hb : w'.heap[ab]? = w.heap[ab]?) (hk : KeepU w w') : AccsIs w' ab n acc := by
  obtain ⟨cs, hc⟩ := h.row
  exact ⟨⟨cs, hb.trans hc⟩, fun k hkn => (h.at_ k hkn).keep hb hk⟩
theorem AccsIs.reads {w : World} {ab n : Nat} {acc : Nat → Acc} (h : AccsIs w ab n acc) : ReadsAccs w (.slice (some ⟨ab, 0, none⟩) n n) ((List.range n).map acc) := by
  refine .inr ⟨ab, 0, n, by simp, fun i hi => ?_⟩
  have hin : i < n := by simpa using hi
  have := (h.at_ i hin).at_
  rw [Nat.zero_add]
  simpa using this
theorem set_block {w : World} {b : Nat} {cs : Array Value} {t : TypeId} {fr : Nat × Nat} (h : w.heap[b]? = some (.cells cs t fr)) (o : Nat) (vs : List Value) : ∃ cs', (w.setCells b o vs).heap[b]? = some (.cells cs' t fr) := ⟨_, heap_setCells vs o w cs h⟩
theorem AccsIs.set {w : World} {ab n : Nat} {acc : Nat → Acc} (h : AccsIs w ab n acc) {k : Nat} (hk : k < n) (y : Acc) {A : Option Addr} {c : Nat} (hy : BO w (.slice A y.l.length c) y.l) :
    AccsIs (w.setCells ab (k * 5) (accVs y (.slice A y.l.length c))) ab n (upd acc k y) ∧ KeepU w (w.setCells ab (k * 5) (accVs y (.slice A y.l.length c))) := by
  obtain ⟨cs, hc⟩ := h.row
  have hku := KeepU.cells hc (by decide) (k * 5) (accVs y (.slice A y.l.length c))
  refine ⟨⟨set_block hc _ _, fun i hi => ?_⟩, hku⟩
  by_cases e : i = k
  · subst e
    rw [upd_same]
    refine ⟨A, c, fun j u hu => ?_, hy.keep hku⟩
    obtain ⟨hj, hju⟩ := List.getElem?_eq_some_iff.1 hu
    obtain ⟨A0, c0, h1, _⟩ := h.at_ i hi
    rw [World.cell?_setCells_in ab _ (i * 5) w (fun j' hj' => ?_) j hj, hju]
    have hsome : ∃ u', (accVs (acc i) (.slice A0 (acc i).l.length c0))[j']? = some u' := ⟨_, List.getElem?_eq_getElem (show j' < (accVs (acc i) (.slice A0 (acc i).l.length c0)).length from hj')⟩
    obtain ⟨u', hu'⟩ := hsome
    rw [h1 j' u' hu']; rfl
  · rw [upd_other _ _ e]
    obtain ⟨A0, c0, h1, h2⟩ := h.at_ i hi
    refine ⟨A0, c0, fun j u hu => ?_, h2.keep hku⟩
    have hj : j < 5 := (List.getElem?_eq_some_iff.1 hu).1
    rw [World.cell?_setCells_out ab _ (k * 5) w ⟨ab, i * 5 + j, none⟩ (fun _ _ => ?_)]
    · exact h1 j u hu
    · show i * 5 + j < k * 5 ∨ k * 5 + 5 ≤ i * 5 + j
      omega

/-- a proposer's cells -/
def prVs (p : Prp) (mp : Option Nat) (v : Value) : List Value := [.int .i64 p.b.r, .int .i64 p.b.m, .map mp, v, .bool p.asked]
def PrAt (w : World) (b o : Nat) (p : Prp) (mp : Option Nat) : Prop := ∃ A c, (∀ j u, (prVs p mp (.slice A p.v.length c))[j]? = some u → w.cell? ⟨b, o + j, none⟩ = some u) ∧ BO w (.slice A p.v.length c) p.v
theorem PrAt.keep {w w' : World} {b o : Nat} {p : Prp} {mp : Option Nat} (h : PrAt w b o p mp) (hb : w'.heap[b]? = w.heap[b]?) (hk : KeepU w w') : PrAt w' b o p mp := by
  obtain ⟨A, c, h1, h2⟩ := h
  exact ⟨A, c, fun j u hu => (World.cell?_of_block (a := ⟨b, o + j, none⟩) hb).trans (h1 j u hu), h2.keep hk⟩
structure PrsIs (w : World) (pb : Nat) (pr : Nat → Prp) (mp : Nat → Option Nat) : Prop where
  row : ∃ cs, w.heap[pb]? = some (.cells cs 41 (0, 0))
  at_ : ∀ m, m < 7 → PrAt w pb (m * 5) (pr m) (mp m)
theorem PrsIs.keep {w w' : World} {pb : Nat} {pr : Nat → Prp} {mp : Nat → Option Nat} (h : PrsIs w pb pr mp) (hb : w'.heap[pb]? = w.heap[pb]?) (hk : KeepU w w') : PrsIs w' pb pr mp := by
  obtain ⟨cs, hc⟩ := h.row
  exact ⟨⟨cs, hb.trans hc⟩, fun k hkn => (h.at_ k hkn).keep hb hk⟩
/-- only who promised has turned -/
theorem PrsIs.same {w : World} {pb : Nat} {pr : Nat → Prp} {mp : Nat → Option Nat} (h : PrsIs w pb pr mp) (m0 : Nat) (g : Nat → Option Acc) : PrsIs w pb (upd pr m0 ⟨(pr m0).b, g, (pr m0).v, (pr m0).asked⟩) mp :=
  ⟨h.row, fun m hm => by
    by_cases e : m = m0
    · subst e; rw [upd_same]; exact h.at_ m hm
    · rw [upd_other _ _ e]; exact h.at_ m hm⟩
theorem PrsIs.set {w : World} {pb : Nat} {pr : Nat → Prp} {mp : Nat → Option Nat} (h : PrsIs w pb pr mp) {m0 : Nat} (hm0 : m0 < 7) (p : Prp) (mo : Option Nat) {A : Option Addr} {c : Nat} (hy : BO w (.slice A p.v.length c) p.v) :
    PrsIs (w.setCells pb (m0 * 5) (prVs p mo (.slice A p.v.length c))) pb (upd pr m0 p) (upd mp m0 mo) ∧ KeepU w (w.setCells pb (m0 * 5) (prVs p mo (.slice A p.v.length c))) := by
  obtain ⟨cs, hc⟩ := h.row
  have hku := KeepU.cells hc (by decide) (m0 * 5) (prVs p mo (.slice A p.v.length c))
  refine ⟨⟨set_block hc _ _, fun i hi => ?_⟩, hku⟩
  by_cases e : i = m0
  · subst e
    rw [upd_same, upd_same]
    refine ⟨A, c, fun j u hu => ?_, hy.keep hku⟩
    obtain ⟨hj, hju⟩ := List.getElem?_eq_some_iff.1 hu
    obtain ⟨A0, c0, h1, _⟩ := h.at_ i hi
    rw [World.cell?_setCells_in pb _ (i * 5) w (fun j' hj' => ?_) j hj, hju]
    have hsome : ∃ u', (prVs (pr i) (mp i) (.slice A0 (pr i).v.length c0))[j']? = some u' := ⟨_, List.getElem?_eq_getElem (show j' < (prVs (pr i) (mp i) (.slice A0 (pr i).v.length c0)).length from hj')⟩
    obtain ⟨u', hu'⟩ := hsome
    rw [h1 j' u' hu']; rfl
  · rw [upd_other _ _ e, upd_other _ _ e]
    obtain ⟨A0, c0, h1, h2⟩ := h.at_ i hi
    refine ⟨A0, c0, fun j u hu => ?_, h2.keep hku⟩
    have hj : j < 5 := (List.getElem?_eq_some_iff.1 hu).1
    rw [World.cell?_setCells_out pb _ (m0 * 5) w ⟨pb, i * 5 + j, none⟩ (fun _ _ => ?_)]
    · exact h1 j u hu
    · show i * 5 + j < m0 * 5 ∨ m0 * 5 + 5 ≤ i * 5 + j
      omega
/-- the value, and that it is asked for -/
theorem PrsIs.ask {w : World} {pb : Nat} {pr : Nat → Prp} {mp : Nat → Option Nat} (h : PrsIs w pb pr mp) {m0 : Nat} (hm0 : m0 < 7) (l : List UInt8) {A : Option Addr} {c : Nat} (hy : BO w (.slice A l.length c) l) :
    PrsIs ((w.setCell ⟨pb, m0 * 5 + 3, none⟩ (.slice A l.length c)).setCell ⟨pb, m0 * 5 + 4, none⟩ (.bool true)) pb (upd pr m0 ⟨(pr m0).b, (pr m0).f, l, true⟩) mp ∧ KeepU w ((w.setCell ⟨pb, m0 * 5 + 3, none⟩ (.slice A l.length c)).setCell ⟨pb, m0 * 5 + 4, none⟩ (.bool true)) := by
  obtain ⟨cs, hc⟩ := h.row
  have hku := (KeepU.cell hc (by decide) (m0 * 5 + 3) (.slice A l.length c)).trans (KeepU.cell (Own.heap_setCell_same hc _ _) (by decide) (m0 * 5 + 4) (.bool true))
  have hne : ∀ (W : World) (o o' : Nat) (u : Value), o ≠ o' → (W.setCell ⟨pb, o, none⟩ u).cell? ⟨pb, o', none⟩ = W.cell? ⟨pb, o', none⟩ := fun W o o' u hoo => by
    apply World.cell?_setCell_other
    intro e
    exact hoo (congrArg Addr.off e)
  refine ⟨⟨⟨_, Own.heap_setCell_same (Own.heap_setCell_same hc _ _) _ _⟩, fun i hi => ?_⟩, hku⟩
  by_cases e : i = m0
  · subst e
    rw [upd_same]
    obtain ⟨A0, c0, h1, _⟩ := h.at_ i hi
    refine ⟨A, c, fun j u hu => ?_, hy.keep hku⟩
    have hj : j < 5 := (List.getElem?_eq_some_iff.1 hu).1
    rcases (by omega : j = 0 ∨ j = 1 ∨ j = 2 ∨ j = 3 ∨ j = 4) with rfl | rfl | rfl | rfl | rfl
    · rw [hne _ _ _ _ (by omega), hne _ _ _ _ (by omega)]; exact h1 0 u hu
    · rw [hne _ _ _ _ (by omega), hne _ _ _ _ (by omega)]; exact h1 1 u hu
    · rw [hne _ _ _ _ (by omega), hne _ _ _ _ (by omega)]; exact h1 2 u hu
    · cases hu
      rw [hne _ _ _ _ (by omega)]
      apply World.cell?_setCell_same
      exact h1 3 _ rfl
    · cases hu
      apply World.cell?_setCell_same
      rw [hne _ _ _ _ (by omega)]
      exact h1 4 _ rfl
  · rw [upd_other _ _ e]
    obtain ⟨A0, c0, h1, h2⟩ := h.at_ i hi
    refine ⟨A0, c0, fun j u hu => ?_, h2.keep hku⟩
    have hj : j < 5 := (List.getElem?_eq_some_iff.1 hu).1
    rw [hne _ _ _ _ (by omega), hne _ _ _ _ (by omega)]; exact h1 j u hu

/-- a map of so many entries -/
def MapX (P : Program) (k : TypeId) (b n : Nat) (f : Value → Option Value) (w : World) : Prop := ∃ es clock, w.heap[b]? = some (.map es clock) ∧ EntIs P k n f es clock ∧ es.size = n
theorem MapX.made {P : Program} {k : TypeId} (w : World) : MapX P k w.heap.size 0 noKeys (w.alloc (.map #[] 0)) := ⟨#[], 0, heap_alloc_new w _, ⟨stamped_empty 0, Nat.le_refl _, by simp, by simp [noKeys]⟩, rfl⟩
theorem MapX.same {P : Program} {k : TypeId} {b n : Nat} {f : Value → Option Value} {w w' : World} (h : MapX P k b n f w) (hs : w'.heap[b]? = w.heap[b]?) : MapX P k b n f w' := by
  obtain ⟨es, clock, h1, h2⟩ := h
  exact ⟨es, clock, hs.trans h1, h2⟩
theorem MapX.is {P : Program} {k : TypeId} {b n : Nat} {f : Value → Option Value} {w : World} (h : MapX P k b n f w) : MapIs P k b n f w := by
  obtain ⟨es, clock, h1, h2, _⟩ := h
  exact ⟨es, clock, h1, h2⟩
theorem MapX.put {P : Program} {k : TypeId} {b n : Nat} {f : Value → Option Value} {w : World} {t e : TypeId} (h : MapX P k b n f w) (K : Keyed P k) (ht : P.underlying t = some (.map k e)) {key val : Value} {kl : Lit} (hkey : keyOf P k key = some kl) (hnew : f key = none) :
    ∃ w', (Instr.mapUpdate t (.map (some b)) key val).run P w = .ok () w' ∧ MapX P k b (n + 1) (putKey f key val) w' ∧ Chg [b] w w' := by
  obtain ⟨es, clock, hb, hE, hn⟩ := h
  have hf := hE.2.2.2
  rcases K.find w hkey es.toList hE.2.2.1 with ⟨h1, h2⟩ | ⟨j, e0, h1, h2, h3⟩
  · refine ⟨ChangeMaps.setBlock w b (.map (es.push ⟨key, val, clock⟩) (clock + 1)), ?_, ⟨_, _, ChangeMaps.heap_setBlock_same hb _, hE.push hkey h2, by simp; omega⟩, chg_setBlock _ _ _⟩
    simp [Instr.mapUpdate, run_underlying ht, MapKept.run_getObj_map hb, K.check w false hkey, h1, MapKept.run_setObj_map _ hb, Result.andThen, ChangeMaps.setBlock]
  · have := (hf key e0.val).2 ⟨e0, List.mem_of_getElem? h2, h3, rfl⟩
    rw [hnew] at this; cases this
/-- who promised, as a map -/
def PMap (g : Nat → Option Acc) (f : Value → Option Value) (w : World) : Prop := ∀ k : Nat, (g k = none → f (.int .i64 k) = none) ∧ ∀ x, g k = some x → ∃ A c, f (.int .i64 k) = some (.agg (accVs x (.slice A x.l.length c)).toArray) ∧ BO w (.slice A x.l.length c) x.l
theorem PMap.keep {g : Nat → Option Acc} {f : Value → Option Value} {w w' : World} (h : PMap g f w) (hk : KeepU w w') : PMap g f w' := fun k => ⟨(h k).1, fun x hx => by
  obtain ⟨A, c, h1, h2⟩ := (h k).2 x hx
  exact ⟨A, c, h1, h2.keep hk⟩⟩
theorem PMap.none (w : World) : PMap (fun _ => none) noKeys w := fun _ => ⟨fun _ => rfl, fun _ h => by cases h⟩
theorem PMap.put {g : Nat → Option Acc} {f : Value → Option Value} {w : World} (h : PMap g f w) (k : Nat) (x : Acc) {A : Option Addr} {c : Nat} (hx : BO w (.slice A x.l.length c) x.l) : PMap (upd g k (some x)) (putKey f (.int .i64 k) (.agg (accVs x (.slice A x.l.length c)).toArray)) w := fun i => by
  by_cases e : i = k
  · subst e
    rw [upd_same, putKey_same]
    exact ⟨fun h => (by cases h), fun y hy => by cases hy; exact ⟨A, c, rfl, hx⟩⟩
  · rw [upd_other _ _ e, putKey_other _ _ (by intro he; cases he; exact e rfl)]
    exact h i
/-- the maps of all proposers -/
structure MapsIs (w : World) (n : Nat) (pr : Nat → Prp) (mp : Nat → Option Nat) : Prop where
  at_ : ∀ m, m < 7 → (mp m = none ∧ ∀ k, (pr m).f k = none) ∨ ∃ mb f, mp m = some mb ∧ MapX Try.prog 3 mb (qc (fun k => ((pr m).f k).isSome) n) f w ∧ PMap (pr m).f f w
  apart : ∀ m m' mb, m < 7 → m' < 7 → mp m = some mb → mp m' = some mb → m = m'
theorem MapsIs.isMap {w : World} {n : Nat} {pr : Nat → Prp} {mp : Nat → Option Nat} (h : MapsIs w n pr mp) {m mb : Nat} (hm : m < 7) (hmb : mp m = some mb) : ∃ es c, w.heap[mb]? = some (.map es c) := by
  rcases h.at_ m hm with ⟨h0, _⟩ | ⟨mb', f, h0, ⟨es, c, h1, _⟩, _⟩
  · rw [hmb] at h0; cases h0
  · rw [hmb] at h0; cases h0; exact ⟨es, c, h1⟩
theorem MapsIs.keep {w w' : World} {n : Nat} {pr : Nat → Prp} {mp : Nat → Option Nat} (h : MapsIs w n pr mp) (hb : ∀ (mb : Nat) (es : Array MapEntry) (c : Nat), w.heap[mb]? = some (.map es c) → w'.heap[mb]? = w.heap[mb]?) (hk : KeepU w w') : MapsIs w' n pr mp := by
  refine ⟨fun m hm => ?_, h.apart⟩
  rcases h.at_ m hm with h0 | ⟨mb, f, h0, h1, h2⟩
  · exact .inl h0
  · obtain ⟨es, c, hh, _⟩ := id h1
    exact .inr ⟨mb, f, h0, MapX.same h1 (hb mb es c hh), h2.keep hk⟩
/-- what is said of a proposer but who promised -/
theorem MapsIs.say {w : World} {n : Nat} {pr : Nat → Prp} {mp : Nat → Option Nat} (h : MapsIs w n pr mp) (m0 : Nat) (b : Bal) (v : List UInt8) (a : Bool) : MapsIs w n (upd pr m0 ⟨b, (pr m0).f, v, a⟩) mp := by
  refine ⟨fun m hm => ?_, h.apart⟩
  by_cases e : m = m0
  · subst e; rw [upd_same]; exact h.at_ m hm
  · rw [upd_other _ _ e]; exact h.at_ m hm
theorem qc_none (n : Nat) : qc (fun _ => ((none : Option Acc)).isSome) n = 0 := by
  induction n with
  | zero => rfl
  | succ n ih => simp only [qc, ih]; rfl
theorem qc_congr {Q K : Nat → Bool} : ∀ n, (∀ k, k < n → Q k = K k) → qc Q n = qc K n
  | 0, _ => rfl
  | n + 1, h => by simp only [qc]; rw [qc_congr n (fun k hk => h k (by omega)), h n (by omega)]
theorem qc_upd {g : Nat → Option Acc} {k : Nat} (x : Acc) (hg : g k = none) : ∀ n, k < n → qc (fun i => (upd g k (some x) i).isSome) n = qc (fun i => (g i).isSome) n + 1
  | 0, h => by omega
  | n + 1, h => by
    by_cases e : k = n
    · subst e
      simp only [qc]
      rw [qc_congr k (K := fun i => (g i).isSome) (fun i hi => by rw [upd_other _ _ (by omega)])]
      simp [upd_same, hg]
    · simp only [qc]
      have hn : upd g k (some x) n = g n := upd_other _ _ (by omega)
      simp only [qc_upd x hg n (by omega), hn]
      omega
/-- a proposer with a new map -/
theorem MapsIs.fresh {w w' : World} {n : Nat} {pr : Nat → Prp} {mp : Nat → Option Nat} (h : MapsIs w n pr mp) {m0 mb : Nat} (p : Prp) (hp : ∀ k, p.f k = none) (hnew : w.heap.size ≤ mb) (hb : ∀ (mb : Nat) (es : Array MapEntry) (c : Nat), w.heap[mb]? = some (.map es c) → w'.heap[mb]? = w.heap[mb]?) (hk : KeepU w w') (hm : w'.heap[mb]? = some (.map #[] 0)) :
    MapsIs w' n (upd pr m0 p) (upd mp m0 (some mb)) := by
  have h' := h.keep hb hk
  refine ⟨fun m hm7 => ?_, fun m m' b hm7 hm7' h1 h2 => ?_⟩
  · by_cases e : m = m0
    · subst e
      rw [upd_same, upd_same]
      have hpf : p.f = fun _ => none := funext hp
      rw [hpf, qc_none]
      exact .inr ⟨mb, noKeys, rfl, ⟨#[], 0, hm, ⟨stamped_empty 0, Nat.le_refl _, by simp, by simp [noKeys]⟩, rfl⟩, PMap.none _⟩
    · rw [upd_other _ _ e, upd_other _ _ e]; exact h'.at_ m hm7
  · have far : ∀ m, m < 7 → mp m ≠ some mb := fun m hm7 hmm => by
      obtain ⟨es, c, hh⟩ := h.isMap hm7 hmm
      have := (Array.getElem?_eq_some_iff.1 hh).1
      omega
    by_cases e : m = m0
    · subst e
      rw [upd_same] at h1
      by_cases e2 : m' = m
      · exact e2.symm
      · rw [upd_other _ _ e2] at h2
        cases h1
        exact absurd h2 (far m' hm7')
    · rw [upd_other _ _ e] at h1
      by_cases e2 : m' = m0
      · subst e2
        rw [upd_same] at h2
        cases h2
        exact absurd h1 (far m hm7)
      · rw [upd_other _ _ e2] at h2
        exact h.apart m m' b hm7 hm7' h1 h2
/-- one more promise is noted -/
theorem MapsIs.put {w w' : World} {n : Nat} {pr : Nat → Prp} {mp : Nat → Option Nat} (h : MapsIs w n pr mp) {m0 mb k : Nat} (hm0 : m0 < 7) (hmb : mp m0 = some mb) (hk : k < n) (x : Acc) {f' : Value → Option Value}
    (hg : (pr m0).f k = none) (hc : Chg [mb] w w') (hx : MapX Try.prog 3 mb (qc (fun i => ((pr m0).f i).isSome) n + 1) f' w') (hp : PMap (upd (pr m0).f k (some x)) f' w') (b : Bal) (v : List UInt8) (a : Bool) :
    MapsIs w' n (upd pr m0 ⟨b, upd (pr m0).f k (some x), v, a⟩) mp := by
  obtain ⟨es, c, hh⟩ := h.isMap hm0 hmb
  have hku := KeepU.map hh hc
  refine ⟨fun m hm7 => ?_, h.apart⟩
  by_cases e : m = m0
  · subst e
    rw [upd_same]
    simp only [qc_upd x hg n hk]
    exact .inr ⟨mb, f', hmb, hx, hp⟩
  · rw [upd_other _ _ e]
    rcases h.at_ m hm7 with h0 | ⟨mb', f, h0, h1, h2⟩
    · exact .inl h0
    · refine .inr ⟨mb', f, h0, h1.same (hc.block mb' ?_ ?_), h2.keep hku⟩
      · obtain ⟨_, _, q, _⟩ := h1; exact (Array.getElem?_eq_some_iff.1 q).1
      · rw [List.mem_singleton]; rintro rfl; exact e (h.apart m m0 _ hm7 hm0 h0 hmb)
end Go.Proofs.Ytaopfgoofhojeaa
