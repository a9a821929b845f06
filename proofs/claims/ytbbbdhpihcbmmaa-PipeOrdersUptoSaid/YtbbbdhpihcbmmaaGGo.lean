/- orders, of one call: what is kept. The walk of orders' goes, of one call: all done. -/
import Derived.Test.YtbbbdhpihcbmmaaPSpan2
namespace Go.Proofs.Ytbbbdhpihcbmmaa
open Go.RowKit Own
open Go.Maps (Keyed)

theorem rowState : (80 : TypeId) < Try.prog.types.size := of_decide_eq_true (by kernel_rfl)
theorem wideState : (match Try.prog.underlying 80 with | some (.array _ _) | some (.struct _) => true | _ => false) = true := by kernel_rfl
theorem keyedState : Keyed Try.prog 80 := Keyed.of_law (deep_law_laid laidOut (m := 2) (by omega) rowState (by kernel_rfl) wideState)
def stV (done : Int) (has : Bool) (s : ByteArray) : Value := .agg #[.int .u64 done, .bool has, .string s]
theorem keyState {done : Int} {has : Bool} {s : ByteArray} (hd : (Lit.int .u64 done).wf = true) (hs : s.size ≤ 140737488351232) : ∃ kl, keyOf Try.prog 80 (stV done has s) = some kl := by
  have h1 : Try.prog.keyType 80 = true := by kernel_rfl
  have h2 : Try.prog.cellsOf 80 = 3 := by kernel_rfl
  have h3 : Try.prog.cellsOf 78 = 1 := by kernel_rfl
  have h4 : Try.prog.cellsOf 9 = 1 := by kernel_rfl
  have h5 : Try.prog.cellsOf 4 = 1 := by kernel_rfl
  have hsz : s.size ≤ maxLen := by simp [maxLen]; omega
  obtain ⟨n, hn⟩ : ∃ n, Try.prog.types.size = n + 1 := ⟨Try.prog.types.size - 1, (Nat.succ_pred_eq_of_pos (Nat.lt_of_le_of_lt (Nat.zero_le _) rowState)).symm⟩
  simp only [keyOf, Try.underlying80, h1, Value.formed, h2, stV, Value.cells, hn]
  have e : Try.prog.keyLits (n + 1 + 1) 80 [.int .u64 done, .bool has, .string s] = some [.int .u64 done, .bool has, .string s.data.toList] := by
    simp [Program.keyLits, Try.underlying80, Try.underlying78, Try.underlying4, Try.underlying9, h2, h3, h4, h5, hd, hsz]
  simp [e]

/-- goes' three variables, the map behind the first, the one span behind the second -/
structure GE (w0 : World) (mc lc gc mm n : Nat) (f : Value → Option Value) (g cap : Nat) (cs : Array Value) (w : World) : Prop where
  met : w.heap[mc]? = some (.cells #[.map (some mm)] 76 (0, 0))
  l : w.heap[lc]? = some (.cells #[.slice (some ⟨g, 0, none⟩) 1 cap] 63 (0, 0))
  goes : w.heap[gc]? = some (.cells #[.func (.func 35) #[] #[.pointer (some ⟨mc, 0, none⟩), .pointer (some ⟨lc, 0, none⟩), .pointer (some ⟨gc, 0, none⟩)]] 77 (0, 0))
  map : MapIs Try.prog 80 mm n f w
  own : w.ownsRow 0 73 11 (.slice (some ⟨g, 0, none⟩) 1 cap) 1 cs.toList
  ge : w0.heap.size ≤ mm
  below : Below w0.heap.size w0 w
section
variable {w0 w w' : World} {mc lc gc mm n g cap : Nat} {f : Value → Option Value} {cs : Array Value}
theorem GE.go (h : GE w0 mc lc gc mm n f g cap cs w) (hb : Below w.heap.size w w') : GE w0 mc lc gc mm n f g cap cs w' :=
  ⟨(hb.block _ (Array.getElem?_eq_some_iff.1 h.met).1).trans h.met, (hb.block _ (Array.getElem?_eq_some_iff.1 h.l).1).trans h.l, (hb.block _ (Array.getElem?_eq_some_iff.1 h.goes).1).trans h.goes, h.map.same (hb.block _ h.map.lt), own_below h.own hb, h.ge, h.below.trans (hb.mono h.below.size)⟩
theorem GE.look (h : GE w0 mc lc gc mm n f g cap cs w) {done : Int} {has : Bool} {s : ByteArray} (hd : (Lit.int .u64 done).wf = true) (hs : s.size ≤ 140737488351232) (hf : f (stV done has s) = none) : (Instr.lookup 76 (.map (some mm)) (stV done has s) false).run Try.prog w = .ok (.bool false) w := by
  obtain ⟨kl, hk⟩ := keyState (has := has) hd hs
  have := h.map.look keyedState Try.underlying76 (zeroBool w) hk
  rw [this, hf]; rfl
theorem GE.put (h : GE w0 mc lc gc mm n f g cap cs w) {done : Int} {has : Bool} {s : ByteArray} (hd : (Lit.int .u64 done).wf = true) (hs : s.size ≤ 140737488351232) : ∃ w', (Instr.mapUpdate 76 (.map (some mm)) (stV done has s) (.bool true)).run Try.prog w = .ok () w' ∧ Chg [mm] w w' ∧ GE w0 mc lc gc mm (n + 1) (putKey f (stV done has s) (.bool true)) g cap cs w' := by
  obtain ⟨kl, hk⟩ := keyState (has := has) hd hs
  obtain ⟨w', h1, h2, h3⟩ := h.map.store (val := .bool true) keyedState Try.underlying76 hk
  obtain ⟨es, clock, hm, _⟩ := h.map
  have nb : ∀ {b : Nat} {c : Array Value} {t : TypeId} {fr : Nat × Nat}, w.heap[b]? = some (.cells c t fr) → w'.heap[b]? = some (.cells c t fr) := fun {b c t fr} hb => by
    refine (h3.block b (Array.getElem?_eq_some_iff.1 hb).1 ?_).trans hb
    rw [List.mem_singleton]
    rintro rfl
    rw [hm] at hb; cases hb
  refine ⟨w', h1, h3, nb h.met, nb h.l, nb h.goes, h2, own_same h.own fun b hb => ?_, h.ge, h.below.trans (h3.below h.below.size (by simpa using h.ge))⟩
  obtain ⟨cur, hc⟩ := own_type h.own hb
  rw [hc]; exact nb hc
theorem GE.cells (h : GE w0 mc lc gc mm n f g cap cs w) (j : Nat) (u : Value) (hu : cs[j]? = some u) : w.cell? ⟨g, j, none⟩ = some u := by
  have hj : j < cs.size := (Array.getElem?_eq_some_iff.1 hu).1
  have := h.own.cells (g := g) rfl j u (by rw [Array.getElem?_toList]; exact hu)
  rwa [Addr.add_lit, Nat.zero_add] at this
end
end Go.Proofs.Ytbbbdhpihcbmmaa
namespace Go.Proofs.Ytbbbdhpihcbmmaa
open Go.RowKit Own
open Go.Maps (Keyed)

theorem GE.env {w0 w : World} {mc lc gc mm n g cap : Nat} {f : Value → Option Value} {cs : Array Value} (h : GE w0 mc lc gc mm n f g cap cs w) : w.cell? ⟨mc, 0, none⟩ = some (.map (some mm)) ∧ w.cell? ⟨lc, 0, none⟩ = some (.slice (some ⟨g, 0, none⟩) 1 cap) ∧ w.cell? ⟨gc, 0, none⟩ = some (.func (.func 35) #[] #[.pointer (some ⟨mc, 0, none⟩), .pointer (some ⟨lc, 0, none⟩), .pointer (some ⟨gc, 0, none⟩)]) :=
  ⟨by rw [cell_of_row _ _ 0 _ _ _ h.met]; rfl, by rw [cell_of_row _ _ 0 _ _ _ h.l]; rfl, by rw [cell_of_row _ _ 0 _ _ _ h.goes]; rfl⟩
theorem GE.nbox {w0 w w' : World} {mc lc gc mm n g cap : Nat} {f : Value → Option Value} {cs : Array Value} (h : GE w0 mc lc gc mm n f g cap cs w) (hc : Chg [mm] w w') {b : Nat} {c : Array Value} {t : TypeId} {fr : Nat × Nat} (hb : w.heap[b]? = some (.cells c t fr)) : w'.heap[b]? = some (.cells c t fr) := by
  obtain ⟨es, clock, hm, _⟩ := h.map
  refine (hc.block b (Array.getElem?_eq_some_iff.1 hb).1 ?_).trans hb
  rw [List.mem_singleton]
  rintro rfl
  rw [hm] at hb; cases hb

theorem GE.row {w0 w : World} {mc lc gc mm n g cap : Nat} {f : Value → Option Value} {c : CallIn} {dv rv : Value} {fr to : Int} {known : Bool} {r : RepIn} (h : GE w0 mc lc gc mm n f g cap (spanC c dv fr to known r rv) w) : w.cell? ⟨g, 0, none⟩ = some (.int .i64 c.k) ∧ w.cell? ⟨g, 1, none⟩ = some (.string c.s) ∧ w.cell? ⟨g, 2, none⟩ = some (.int .i64 c.a) ∧ w.cell? ⟨g, 3, none⟩ = some dv ∧ w.cell? ⟨g, 4, none⟩ = some (.int .i64 c.n) ∧ w.cell? ⟨g, 5, none⟩ = some (.int .i64 fr) ∧ w.cell? ⟨g, 6, none⟩ = some (.int .i64 to) ∧ w.cell? ⟨g, 7, none⟩ = some (.bool known) ∧ w.cell? ⟨g, 8, none⟩ = some (.int .i64 r.code) ∧ w.cell? ⟨g, 9, none⟩ = some (.int .i64 r.size) ∧ w.cell? ⟨g, 10, none⟩ = some rv :=
  ⟨h.cells 0 _ rfl, h.cells 1 _ rfl, h.cells 2 _ rfl, h.cells 3 _ rfl, h.cells 4 _ rfl, h.cells 5 _ rfl, h.cells 6 _ rfl, h.cells 7 _ rfl, h.cells 8 _ rfl, h.cells 9 _ rfl, h.cells 10 _ rfl⟩

set_option maxHeartbeats 4000000 in
set_option maxRecDepth 100000 in
theorem goes_end (w0 : World) (mc lc gc mm n g cap : Nat) (f : Value → Option Value) (c : CallIn) (dA rA : Option Addr) (dn dc rn rc : Nat) (fr to : Int) (r : RepIn) (has : Bool) (s : ByteArray) (w : World)
    (h : GE w0 mc lc gc mm n f g cap (spanC c (.slice dA dn dc) fr to true r (.slice rA rn rc)) w) (hs : s.size ≤ 140737488351232) (hf : f (stV 1 has s) = none) :
    Calls Try.prog 35 #[.agg #[.int .u64 1, .bool has, .string s], .pointer (some ⟨mc, 0, none⟩), .pointer (some ⟨lc, 0, none⟩), .pointer (some ⟨gc, 0, none⟩)] w fun e w' => e = .returned (.bool true) ∧ Chg [mm] w w' := by
  have hal : ∀ (W : World) o, Below W.heap.size W (W.alloc o) := fun W o => (Below.refl _ _).alloc (Nat.le_refl _) o
  have h1 := h.go (hal w (.cells #[.int .u64 1, .bool has, .string s] 80))
  obtain ⟨m0, m1, m2⟩ := h1.env
  have hlk := h1.look (done := 1) (has := has) (by decide) hs hf
  obtain ⟨W2, hput, hch, h2⟩ := h1.put (done := 1) (has := has) (by decide) hs
  have hbx := h1.nbox hch (heap_alloc_new w (.cells #[.int .u64 1, .bool has, .string s] 80))
  unfold stV at hlk hput
  have HG := Lib.hid h2
  have HC : Hid (Chg [mm] w W2) := (Chg.of_below (hal w _)).trans hch (fun _ h _ => h)
  have HBx := Lib.hid hbx
  obtain ⟨p0, p1, p2⟩ := h2.env
  clear h h1 hch h2 hbx hs hf
  go_enter Try.func35, Try.ntmps35
  go_wp2_with fail
  go_loopw [6, 7, 22] (fun en le i wr => en = .int .i64 4611686018427387904 ∧ le = .bool false ∧ Hid (Below W2.heap.size W2 wr) ∧ (i = .int .i64 0 ∨ i = .int .i64 1)) (fun _ _ i _ => 1 - (intOf i).toNat)
  case atStart => exact ⟨rfl, rfl, Below.refl _ _, .inl rfl⟩
  case round =>
    obtain ⟨rfl, rfl, HB, hi⟩ := hrel
    obtain ⟨wL, rfl⟩ : ∃ wo : World, wo = wr := ⟨_, rfl⟩
    have hg := HG.out.go HB.out
    obtain ⟨c0, c1, c2, c3, c4, c5, c6, c7, c8, c9, c10⟩ := hg.row
    have HGL := Lib.hid hg
    have hbL := (HB.out.block _ (Array.getElem?_eq_some_iff.1 HBx.out).1).trans HBx.out
    have b0 := fun o => cell_of_row (wL.alloc o) w.heap.size 0 _ _ _ (((hal wL o).block _ (Array.getElem?_eq_some_iff.1 hbL).1).trans hbL)
    simp only [List.getElem?_toArray, List.getElem?_cons_zero] at b0
    have HAl := Lib.hid hal
    clear hg hbL p0 p1 p2 hal
    rcases hi with rfl | rfl
    · go_wp2_with fail
      go_roundw
      case rel => exact ⟨rfl, rfl, HB.out.trans ((HAl.out wL _).mono HB.out.size), .inr rfl⟩
      case measure => simp [intOf]
    · go_wp2_with fail
      go_ret
      exact ⟨rfl, HC.out.trans (Chg.of_below HB.out) (fun _ h _ => h)⟩
end Go.Proofs.Ytbbbdhpihcbmmaa
