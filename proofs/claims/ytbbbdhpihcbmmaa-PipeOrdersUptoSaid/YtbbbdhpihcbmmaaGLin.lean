/- Can calls of one name be put in order: what is asked. No program in sight. Orders' goes: its variables, the calls, the memo. '[]byte(s)'. -/
import Derived.Test.YtbbbdhpihcbmmaaPGo3
import Derived.Laws.BitsAllLaws
import Derived.Deep.AppendSrc
import Derived.Laws.IdiomStrings
namespace Go.Proofs.Ytbbbdhpihcbmmaa
open Go.RowKit Own

/-- a call from its beginning to its end -/
structure SpIn where
  call : CallIn
  fr : Nat
  to : Nat
  known : Bool
  rep : RepIn
instance : Inhabited SpIn := ⟨⟨default, 0, 0, false, default⟩⟩
/-- not done yet -/
def undone (D : Nat) (i : Nat) : Prop := D.testBit i = false
/-- one may be next -/
def May1 (L : List SpIn) (D : Nat) (i : Nat) : Prop := undone D i ∧ ∀ (j : Nat) (hj : j < L.length), undone D j → (L[j]'hj).known = true → ∀ (hi : i < L.length), (L[i]'hi).fr ≤ (L[j]'hj).to
def FitR (s : SpIn) (has : Bool) (b : List UInt8) : Prop := s.known = false ∨ sameB (repOf (doR s.call has b)) s.rep = true
inductive Goes (L : List SpIn) : Nat → Bool → List UInt8 → Prop
  | fin (D : Nat) (has : Bool) (b : List UInt8) : (∀ (j : Nat) (hj : j < L.length), undone D j → (L[j]'hj).known = false) → Goes L D has b
  | step (D : Nat) (has : Bool) (b : List UInt8) (i : Nat) (hi : i < L.length) : May1 L D i → FitR (L[i]'hi) has b → Goes L (D ||| 1 <<< i) (doR (L[i]'hi).call has b).has (doR (L[i]'hi).call has b).b → Goes L D has b
/-- how many of the first n are done -/
def rankD (D : Nat) : Nat → Nat
  | 0 => 0
  | n + 1 => rankD D n + if D.testBit n = true then 1 else 0
theorem rankD_le (D : Nat) : ∀ n, rankD D n ≤ n
  | 0 => Nat.le_refl _
  | n + 1 => by have := rankD_le D n; simp only [rankD]; split <;> omega
theorem testBit_or (D i j : Nat) : (D ||| 1 <<< i).testBit j = (D.testBit j || decide (i = j)) := by
  rw [Nat.testBit_or, Nat.one_shiftLeft, Nat.testBit_two_pow]
theorem rankD_or (D i : Nat) (h : undone D i) : ∀ n, rankD (D ||| 1 <<< i) n = rankD D n + if i < n then 1 else 0
  | 0 => by simp [rankD]
  | n + 1 => by
    have ih := rankD_or D i h n
    simp only [rankD, ih, testBit_or]
    by_cases e : i = n
    · subst e
      unfold undone at h
      simp [h]
    · have hd : (D.testBit n || decide (i = n)) = D.testBit n := by simp [e]
      rw [hd]
      by_cases h1 : i < n
      · rw [if_pos h1, if_pos (show i < n + 1 by omega)]; omega
      · rw [if_neg h1, if_neg (show ¬ i < n + 1 by omega)]; omega
theorem goes_cases {L : List SpIn} {D : Nat} {has : Bool} {b : List UInt8} (h : Goes L D has b) : (∀ (j : Nat) (hj : j < L.length), undone D j → (L[j]'hj).known = false) ∨ ∃ (i : Nat) (hi : i < L.length), May1 L D i ∧ FitR (L[i]'hi) has b ∧ Goes L (D ||| 1 <<< i) (doR (L[i]'hi).call has b).has (doR (L[i]'hi).call has b).b := by
  cases h with
  | fin _ _ _ h => exact .inl h
  | step _ _ _ i hi h1 h2 h3 => exact .inr ⟨i, hi, h1, h2, h3⟩
theorem bit_facts' (D i : Nat) : D / 2 ^ i % 2 = 1 ↔ D.testBit i = true := by rw [Nat.testBit_eq_decide_div_mod_eq, decide_eq_true_eq]
/-- bits of few calls -/
theorem bit_facts (D i : Nat) (hD : D < 256) (hi : i < 8) : (D / 2 ^ i % 2 = 1 ↔ D.testBit i = true) ∧ D ||| 1 <<< i < 256 := by
  constructor
  · rw [Nat.testBit_eq_decide_div_mod_eq, decide_eq_true_eq]
  · have h1 : D < 2 ^ 8 := hD
    have h2 : 1 <<< i < 2 ^ 8 := by rw [Nat.one_shiftLeft]; exact Nat.pow_lt_pow_right (by omega) hi
    exact Nat.or_lt_two_pow h1 h2
theorem bit_and (D q : Nat) (hD : D < 256) : bits .and .u64 ((D : Int) / 2 ^ q) 1 = if D.testBit q = true then 1 else 0 := by
  have e : (D : Int) / 2 ^ q = ((D / 2 ^ q : Nat) : Int) := by simp
  have hlt : D / 2 ^ q < 18446744073709551616 := Nat.lt_of_le_of_lt (Nat.div_le_self _ _) (by omega)
  have h := u64_and_nat (D / 2 ^ q) 1 hlt (by decide)
  rw [e]
  refine h.trans ?_
  rw [Nat.and_one_is_mod]
  have h2 := (bit_facts' D q)
  by_cases hb : D.testBit q = true
  · rw [if_pos hb, h2.2 hb]; rfl
  · rw [if_neg hb]
    have : ¬ D / 2 ^ q % 2 = 1 := fun h => hb (h2.1 h)
    have h3 : D / 2 ^ q % 2 = 0 := by omega
    rw [h3]; rfl
end Go.Proofs.Ytbbbdhpihcbmmaa
namespace Go.Proofs.Ytbbbdhpihcbmmaa
open Go.RowKit Own
open Go.Maps (Keyed)

/-- a call as it lies in memory -/
abbrev SpV := SpIn × Value × Value
def spL (p : SpV) : List Value := (spanC p.1.call p.2.1 p.1.fr p.1.to p.1.known p.1.rep p.2.2).toList
def cellsSp (L : List SpV) : List Value := L.flatMap spL
theorem spL_len (p : SpV) : (spL p).length = 11 := rfl
theorem cellsSp_snoc (L : List SpV) (p : SpV) : cellsSp (L ++ [p]) = cellsSp L ++ spL p := by simp [cellsSp]
theorem cellsSp_at : ∀ (L : List SpV) (i : Nat) (hi : i < L.length) (j : Nat), j < 11 → (cellsSp L)[i * 11 + j]? = (spL (L[i]'hi))[j]?
  | [], i, hi, _, _ => by cases hi
  | p :: L, 0, _, j, hj => by
    have h5 := spL_len p
    simp only [cellsSp, List.flatMap_cons, Nat.zero_mul, Nat.zero_add]
    rw [List.getElem?_append_left (by omega)]; rfl
  | p :: L, i + 1, hi, j, hj => by
    have h5 := spL_len p
    have ih := cellsSp_at L i (by simpa using hi) j hj
    simp only [cellsSp, List.flatMap_cons] at ih ⊢
    rw [List.getElem?_append_right (by omega), show (i + 1) * 11 + j - (spL p).length = i * 11 + j by omega, ih]; rfl
structure SpOk (s : SpIn) : Prop where
  call : CallOk s.call
  rd : s.rep.d.length ≤ 140737488351232
  fr : s.fr ≤ 100
  to : s.to ≤ 100
/-- what a call's slices read -/
def SpReads (w : World) (p : SpV) : Prop := ∃ dA dc rA rc, p.2.1 = .slice dA p.1.call.d.length dc ∧ p.2.2 = .slice rA p.1.rep.d.length rc ∧ ReadsB w p.2.1 p.1.call.d ∧ ReadsB w p.2.2 p.1.rep.d

structure GG (mc lc gc mm n : Nat) (f : Value → Option Value) (g cap : Nat) (LV : List SpV) (w : World) : Prop where
  met : w.heap[mc]? = some (.cells #[.map (some mm)] 76 (0, 0))
  l : w.heap[lc]? = some (.cells #[.slice (some ⟨g, 0, none⟩) LV.length cap] 63 (0, 0))
  goes : w.heap[gc]? = some (.cells #[.func (.func 35) #[] #[.pointer (some ⟨mc, 0, none⟩), .pointer (some ⟨lc, 0, none⟩), .pointer (some ⟨gc, 0, none⟩)]] 77 (0, 0))
  map : MapIs Try.prog 80 mm n f w
  own : w.ownsRow 0 73 11 (.slice (some ⟨g, 0, none⟩) LV.length cap) LV.length (cellsSp LV)
  rd : ∀ p ∈ LV, SpReads w p
section
variable {w w' : World} {mc lc gc mm n g cap : Nat} {f f' : Value → Option Value} {LV : List SpV}
theorem SpReads.kept {p : SpV} (h : SpReads w p) (hk : Kept w w') : SpReads w' p := by
  obtain ⟨dA, dc, rA, rc, h1, h2, h3, h4⟩ := h
  exact ⟨dA, dc, rA, rc, h1, h2, h3.kept hk, h4.kept hk⟩
theorem GG.go (h : GG mc lc gc mm n f g cap LV w) (hb : Below w.heap.size w w') : GG mc lc gc mm n f g cap LV w' :=
  ⟨(hb.block _ (Array.getElem?_eq_some_iff.1 h.met).1).trans h.met, (hb.block _ (Array.getElem?_eq_some_iff.1 h.l).1).trans h.l, (hb.block _ (Array.getElem?_eq_some_iff.1 h.goes).1).trans h.goes, h.map.same (hb.block _ h.map.lt), own_below h.own hb, fun p hp => (h.rd p hp).kept (Kept.of_below hb)⟩
theorem GG.isMap (h : GG mc lc gc mm n f g cap LV w) : ∃ es c, w.heap[mm]? = some (.map es c) := by
  obtain ⟨es, c, hm, _⟩ := h.map
  exact ⟨es, c, hm⟩
theorem chg_row {b : Nat} {c : Array Value} {t : TypeId} {fr : Nat × Nat} (hc : Chg [mm] w w') (hm : ∃ es c, w.heap[mm]? = some (.map es c)) (hb : w.heap[b]? = some (.cells c t fr)) : w'.heap[b]? = some (.cells c t fr) := by
  obtain ⟨es, cl, hm⟩ := hm
  refine (hc.block b (Array.getElem?_eq_some_iff.1 hb).1 ?_).trans hb
  rw [List.mem_singleton]
  rintro rfl
  rw [hm] at hb; cases hb
theorem GG.chg {n' : Nat} (h : GG mc lc gc mm n f g cap LV w) (hc : Chg [mm] w w') (hm : MapIs Try.prog 80 mm n' f' w') : GG mc lc gc mm n' f' g cap LV w' := by
  have hi := h.isMap
  refine ⟨chg_row hc hi h.met, chg_row hc hi h.l, chg_row hc hi h.goes, hm, own_same h.own fun b hb => ?_, fun p hp => (h.rd p hp).kept (Kept.of_chg hc hi)⟩
  obtain ⟨cur, hcu⟩ := own_type h.own hb
  rw [hcu]; exact chg_row hc hi hcu
theorem GG.env (h : GG mc lc gc mm n f g cap LV w) : w.cell? ⟨mc, 0, none⟩ = some (.map (some mm)) ∧ w.cell? ⟨lc, 0, none⟩ = some (.slice (some ⟨g, 0, none⟩) LV.length cap) ∧ w.cell? ⟨gc, 0, none⟩ = some (.func (.func 35) #[] #[.pointer (some ⟨mc, 0, none⟩), .pointer (some ⟨lc, 0, none⟩), .pointer (some ⟨gc, 0, none⟩)]) :=
  ⟨by rw [cell_of_row _ _ 0 _ _ _ h.met]; rfl, by rw [cell_of_row _ _ 0 _ _ _ h.l]; rfl, by rw [cell_of_row _ _ 0 _ _ _ h.goes]; rfl⟩
theorem GG.row (h : GG mc lc gc mm n f g cap LV w) {i : Nat} (hi : i < LV.length) : ∃ dA dc rA rc,
    (w.cell? ⟨g, i * 11, none⟩ = some (.int .i64 (LV[i]'hi).1.call.k) ∧ w.cell? ⟨g, i * 11 + 1, none⟩ = some (.string (LV[i]'hi).1.call.s) ∧ w.cell? ⟨g, i * 11 + 2, none⟩ = some (.int .i64 (LV[i]'hi).1.call.a) ∧ w.cell? ⟨g, i * 11 + 3, none⟩ = some (.slice dA (LV[i]'hi).1.call.d.length dc) ∧ w.cell? ⟨g, i * 11 + 4, none⟩ = some (.int .i64 (LV[i]'hi).1.call.n) ∧
      w.cell? ⟨g, i * 11 + 5, none⟩ = some (.int .i64 ((LV[i]'hi).1.fr : Nat)) ∧ w.cell? ⟨g, i * 11 + 6, none⟩ = some (.int .i64 ((LV[i]'hi).1.to : Nat)) ∧ w.cell? ⟨g, i * 11 + 7, none⟩ = some (.bool (LV[i]'hi).1.known) ∧ w.cell? ⟨g, i * 11 + 8, none⟩ = some (.int .i64 (LV[i]'hi).1.rep.code) ∧ w.cell? ⟨g, i * 11 + 9, none⟩ = some (.int .i64 (LV[i]'hi).1.rep.size) ∧ w.cell? ⟨g, i * 11 + 10, none⟩ = some (.slice rA (LV[i]'hi).1.rep.d.length rc)) ∧
    ReadsB w (.slice dA (LV[i]'hi).1.call.d.length dc) (LV[i]'hi).1.call.d ∧ ReadsB w (.slice rA (LV[i]'hi).1.rep.d.length rc) (LV[i]'hi).1.rep.d := by
  obtain ⟨dA, dc, rA, rc, h1, h2, h3, h4⟩ := h.rd _ (List.getElem_mem hi)
  have cell : ∀ j u, j < 11 → (spL (LV[i]'hi))[j]? = some u → w.cell? ⟨g, i * 11 + j, none⟩ = some u := fun j u hj hu => by
    have := h.own.cells (g := g) rfl (i * 11 + j) u (by rw [cellsSp_at LV i hi j hj]; exact hu)
    rwa [Addr.add_lit, Nat.zero_add] at this
  refine ⟨dA, dc, rA, rc, ⟨cell 0 _ (by omega) rfl, cell 1 _ (by omega) rfl, cell 2 _ (by omega) rfl, cell 3 _ (by omega) (by rw [← h1]; rfl), cell 4 _ (by omega) rfl, cell 5 _ (by omega) rfl, cell 6 _ (by omega) rfl, cell 7 _ (by omega) rfl, cell 8 _ (by omega) rfl, cell 9 _ (by omega) rfl, cell 10 _ (by omega) (by rw [← h2]; rfl)⟩, by rw [← h1]; exact h3, by rw [← h2]; exact h4⟩
/-- the states that were met -/
abbrev St := Nat × Bool × List UInt8
def SK (f : Value → Option Value) (M : List St) : Prop := ∀ (d : Nat) (h : Bool) (b : List UInt8), f (stV d h ⟨b.toArray⟩) = if (d, h, b) ∈ M then some (.bool true) else none
theorem stV_inj {d d' : Nat} {h h' : Bool} {b b' : List UInt8} (e : stV d h ⟨b.toArray⟩ = stV d' h' ⟨b'.toArray⟩) : (d, h, b) = (d', h', b') := by
  simp only [stV, Value.agg.injEq, Array.mk.injEq, List.cons.injEq, Value.int.injEq, Value.bool.injEq, Value.string.injEq, ByteArray.mk.injEq, and_true, true_and] at e
  obtain ⟨e1, e2, e3⟩ := e
  have e1 : d = d' := by omega
  rw [e1, e2, e3]
theorem SK.nil : SK noKeys [] := fun _ _ _ => rfl
theorem SK.add {M : List St} (h : SK f M) (d : Nat) (hs : Bool) (b : List UInt8) : SK (putKey f (stV d hs ⟨b.toArray⟩) (.bool true)) ((d, hs, b) :: M) := fun d' h' b' => by
  by_cases e : (d', h', b') = (d, hs, b)
  · cases e
    rw [putKey_same, if_pos (List.mem_cons_self ..)]
  · rw [putKey_other _ _ (fun he => e (stV_inj he)), h d' h' b']
    by_cases hm : (d', h', b') ∈ M
    · rw [if_pos hm, if_pos (List.mem_cons_of_mem _ hm)]
    · rw [if_neg hm, if_neg (fun hc => by rcases List.mem_cons.1 hc with q | q; exact e q; exact hm q)]
theorem u64_wf {d : Nat} (hd : d < 256) : (Lit.int .u64 (d : Int)).wf = true := by
  have h1 : (0 : Int) ≤ (d : Int) := by omega
  have h2 : (d : Int) ≤ 18446744073709551615 := by omega
  simpa [Lit.wf, IntKind.min, IntKind.max, IntKind.signed, IntKind.bits] using And.intro h1 h2
theorem GG.look {M : List St} (h : GG mc lc gc mm n f g cap LV w) (hs : SK f M) {d : Nat} (hd : d < 256) (has : Bool) {b : List UInt8} (hb : b.length ≤ 4096) : (Instr.lookup 76 (.map (some mm)) (.agg #[.int .u64 d, .bool has, .string ⟨b.toArray⟩]) false).run Try.prog w = .ok (.bool (decide ((d, has, b) ∈ M))) w := by
  obtain ⟨kl, hk⟩ := keyState (done := d) (has := has) (s := ⟨b.toArray⟩) (u64_wf hd) (by show b.toArray.size ≤ _; rw [List.size_toArray]; omega)
  have := h.map.look keyedState Try.underlying76 (zeroBool w) hk
  unfold stV at this
  rw [this]
  have hf := hs d has b
  unfold stV at hf
  rw [hf]
  by_cases hm : (d, has, b) ∈ M
  · rw [if_pos hm]; simp [hm]
  · rw [if_neg hm]; simp [hm]
theorem GG.put {M : List St} (h : GG mc lc gc mm n f g cap LV w) (hs : SK f M) {d : Nat} (hd : d < 256) (has : Bool) {b : List UInt8} (hb : b.length ≤ 4096) : ∃ w', (Instr.mapUpdate 76 (.map (some mm)) (.agg #[.int .u64 d, .bool has, .string ⟨b.toArray⟩]) (.bool true)).run Try.prog w = .ok () w' ∧ Chg [mm] w w' ∧ ∃ f', GG mc lc gc mm (n + 1) f' g cap LV w' ∧ SK f' ((d, has, b) :: M) := by
  obtain ⟨kl, hk⟩ := keyState (done := d) (has := has) (s := ⟨b.toArray⟩) (u64_wf hd) (by show b.toArray.size ≤ _; rw [List.size_toArray]; omega)
  obtain ⟨w', h1, h2, h3⟩ := h.map.store (val := .bool true) keyedState Try.underlying76 hk
  exact ⟨w', h1, h3, _, h.chg h3 h2, hs.add d has b⟩
end
/-- what goes leaves -/
def GPost (mc lc gc mm g cap : Nat) (LV : List SpV) (M : List St) (d : Nat) (has : Bool) (b : List UInt8) (w : World) (e : Ending) (w' : World) : Prop :=
  ∃ r : Bool, e = .returned (.bool r) ∧ (r = true ↔ Goes (LV.map Prod.fst) d has b) ∧ Chg [mm] w w' ∧ ∃ n f M', GG mc lc gc mm n f g cap LV w' ∧ SK f M' ∧ (r = false → ∀ t ∈ M', t ∈ M ∨ ¬ Goes (LV.map Prod.fst) t.1 t.2.1 t.2.2)
end Go.Proofs.Ytbbbdhpihcbmmaa
namespace Go.Proofs.Ytbbbdhpihcbmmaa
open Go.RowKit Own

theorem conv_str (l : List UInt8) (w : World) : ∃ c w', (convert 9 23 (.string ⟨l.toArray⟩)).run Try.prog w = .ok (.slice (some ⟨w.heap.size, 0, none⟩) l.length c) w' ∧ l.length ≤ c ∧ ReadsB w' (.slice (some ⟨w.heap.size, 0, none⟩) l.length c) l ∧ Below w.heap.size w w' ∧ (∀ j, j < l.length → w'.frozen? ⟨w.heap.size, j, none⟩ = false) := by
  have hc : l.length ≤ grownCap w l.length 0 5 := grownCap_ge _ _ _ _
  have hr := run_bytes_of_string (P := Try.prog) w 9 23 5 ⟨l.toArray⟩ Try.underlying9 Try.underlying23 Try.underlying5
  have hsz : (⟨l.toArray⟩ : ByteArray).size = l.length := by simp [ByteArray.size]
  rw [hsz] at hr
  have hsz2 : (bytesRow ⟨l.toArray⟩ (grownCap w l.length 0 5)).size = grownCap w l.length 0 5 := by
    simp only [bytesRow, Array.size_append, Array.size_map, Array.size_replicate, hsz]
    simp
    omega
  have hdr : Below w.heap.size w w.drew := ⟨rfl, rfl, rfl, Nat.le_refl _, fun _ _ => rfl⟩
  obtain ⟨O, hO⟩ : ∃ O, O = Obj.cells (bytesRow ⟨l.toArray⟩ (grownCap w l.length 0 5)) 5 ((bytesRow ⟨l.toArray⟩ (grownCap w l.length 0 5)).size, (bytesRow ⟨l.toArray⟩ (grownCap w l.length 0 5)).size + 1) := ⟨_, rfl⟩
  rw [← hO] at hr
  have hh : (w.drew.alloc O).heap[w.heap.size]? = some (.cells (bytesRow ⟨l.toArray⟩ (grownCap w l.length 0 5)) 5 (grownCap w l.length 0 5, grownCap w l.length 0 5 + 1)) := by
    rw [hO, hsz2]; exact heap_alloc_new w.drew _
  refine ⟨_, _, hr, hc, .inr ⟨⟨w.heap.size, 0, none⟩, _, rfl, fun j u hu => ?_⟩, ?_, fun j hj => ?_⟩
  · have hj : j < l.length := by have := (List.getElem?_eq_some_iff.1 hu).1; rwa [u8s_length] at this
    rw [Addr.add_lit, Nat.zero_add]
    rw [cell_of_row (w.drew.alloc O) w.heap.size j _ _ _ hh, bytesRow_at _ _ j (by simpa using hj), ← hu]
    simp [u8s, List.getElem?_eq_getElem hj]
  · exact hdr.alloc (Nat.le_refl _) _
  · simp only [World.frozen?, hh]
    simp
    omega

theorem bit_or (D q : Nat) (hD : D < 256) (hq : q < 8) : bits .or .u64 (D : Int) (IntKind.u64.wrap (2 ^ q)) = ((D ||| 1 <<< q : Nat) : Int) := by
  have h2 : 2 ^ q < 256 := by
    have : 2 ^ q < 2 ^ 8 := Nat.pow_lt_pow_right (by omega) hq
    omega
  have e : IntKind.u64.wrap (2 ^ q) = ((2 ^ q : Nat) : Int) := by
    have : ((2 : Int) ^ q) = ((2 ^ q : Nat) : Int) := by simp
    rw [this]
    generalize (2 ^ q : Nat) = z at h2
    exact IntWalk.u64_in _ ⟨by omega, by omega⟩
  rw [e, u64_or_nat D (2 ^ q) (by omega) (by omega), Nat.one_shiftLeft]
end Go.Proofs.Ytbbbdhpihcbmmaa
