/- Events as they come in; where a call's end is. -/
import Derived.Test.YtbbbdhpihcbmmaaPSmall
namespace Go.Proofs.Ytbbbdhpihcbmmaa
open Go.RowKit Own

structure EvIn where
  kc : Int
  ks : Int
  done : Bool
  unk : Bool
  call : CallIn
  rep : RepIn
instance : Inhabited RepIn := ⟨⟨0, 0, []⟩⟩
instance : Inhabited EvIn := ⟨⟨0, 0, false, false, default, default⟩⟩
structure EvOk (x : EvIn) : Prop where
  kc : (Lit.int .i64 x.kc).wf = true
  ks : (Lit.int .i64 x.ks).wf = true
  call : CallOk x.call
  rd : x.rep.d.length ≤ 140737488351232
def evV (x : EvIn) (dv rv : Value) : Value := .agg #[.int .i64 x.kc, .int .i64 x.ks, .bool x.done, .bool x.unk, .int .i64 x.call.k, .string x.call.s, .int .i64 x.call.a, dv, .int .i64 x.call.n, .int .i64 x.rep.code, .int .i64 x.rep.size, rv]
def evC (x : EvIn) (dv rv : Value) : Array Value := #[.int .i64 x.kc, .int .i64 x.ks, .bool x.done, .bool x.unk, .int .i64 x.call.k, .string x.call.s, .int .i64 x.call.a, dv, .int .i64 x.call.n, .int .i64 x.rep.code, .int .i64 x.rep.size, rv]
def EvAt (w : World) (blk o : Nat) (x : EvIn) : Prop :=
  ∃ dv rv, (∀ j u, (evC x dv rv)[j]? = some u → w.cell? ⟨blk, o + j, none⟩ = some u) ∧ ReadsB w dv x.call.d ∧ ReadsB w rv x.rep.d
theorem EvAt.below {w w1 : World} {blk o : Nat} {x : EvIn} (h : EvAt w blk o x) (hb : Below w.heap.size w w1) : EvAt w1 blk o x := by
  obtain ⟨dv, rv, h0, h1, h2⟩ := h
  exact ⟨dv, rv, fun j u hu => (hb.cell (World.block_lt_of_cell? w _ (h0 j u hu))).trans (h0 j u hu), h1.below hb, h2.below hb⟩
def ReadsEvs (w : World) (v : Value) (xs : List EvIn) : Prop :=
  (v = .slice none 0 0 ∧ xs = []) ∨ ∃ b off c, v = .slice (some ⟨b, off, none⟩) xs.length c ∧ ∀ i (hi : i < xs.length), EvAt w b (off + i * 12) (xs[i]'hi)
theorem ReadsEvs.below {w w1 : World} {v : Value} {xs : List EvIn} (h : ReadsEvs w v xs) (hb : Below w.heap.size w w1) : ReadsEvs w1 v xs := by
  rcases h with h | ⟨b, off, c, hv, hc⟩
  · exact .inl h
  · exact .inr ⟨b, off, c, hv, fun i hi => (hc i hi).below hb⟩
theorem ReadsEvs.slice {w : World} {v : Value} {xs : List EvIn} (h : ReadsEvs w v xs) : ∃ A c, v = .slice A xs.length c := by
  rcases h with ⟨rfl, rfl⟩ | ⟨b, off, c, rfl, _⟩
  · exact ⟨none, 0, rfl⟩
  · exact ⟨_, c, rfl⟩
theorem ReadsEvs.at_ {w : World} {v : Value} {xs : List EvIn} (h : ReadsEvs w v xs) {i : Nat} (hi : i < xs.length) : ∃ b off c, v = .slice (some ⟨b, off, none⟩) xs.length c ∧ EvAt w b (off + i * 12) (xs[i]'hi) := by
  rcases h with ⟨_, rfl⟩ | ⟨b, off, c, rfl, hc⟩
  · cases hi
  · exact ⟨b, off, c, rfl, hc i hi⟩
/-- an event's cells, one by one -/
theorem EvAt.cells {w : World} {blk o : Nat} {x : EvIn} (h : EvAt w blk o x) : ∃ dA dc rA rc,
    (w.cell? ⟨blk, o, none⟩ = some (.int .i64 x.kc) ∧ w.cell? ⟨blk, o + 1, none⟩ = some (.int .i64 x.ks) ∧ w.cell? ⟨blk, o + 2, none⟩ = some (.bool x.done) ∧ w.cell? ⟨blk, o + 3, none⟩ = some (.bool x.unk) ∧ w.cell? ⟨blk, o + 4, none⟩ = some (.int .i64 x.call.k) ∧ w.cell? ⟨blk, o + 5, none⟩ = some (.string x.call.s) ∧
    w.cell? ⟨blk, o + 6, none⟩ = some (.int .i64 x.call.a) ∧ w.cell? ⟨blk, o + 7, none⟩ = some (.slice dA x.call.d.length dc) ∧ w.cell? ⟨blk, o + 8, none⟩ = some (.int .i64 x.call.n) ∧ w.cell? ⟨blk, o + 9, none⟩ = some (.int .i64 x.rep.code) ∧ w.cell? ⟨blk, o + 10, none⟩ = some (.int .i64 x.rep.size) ∧ w.cell? ⟨blk, o + 11, none⟩ = some (.slice rA x.rep.d.length rc)) ∧
    ReadsB w (.slice dA x.call.d.length dc) x.call.d ∧ ReadsB w (.slice rA x.rep.d.length rc) x.rep.d := by
  obtain ⟨dv, rv, h0, h1, h2⟩ := h
  obtain ⟨dA, dc, rfl⟩ := h1.slice
  obtain ⟨rA, rc, rfl⟩ := h2.slice
  exact ⟨dA, dc, rA, rc, ⟨h0 0 _ rfl, h0 1 _ rfl, h0 2 _ rfl, h0 3 _ rfl, h0 4 _ rfl, h0 5 _ rfl, h0 6 _ rfl, h0 7 _ rfl, h0 8 _ rfl, h0 9 _ rfl, h0 10 _ rfl, h0 11 _ rfl⟩, h1, h2⟩

theorem EvAt.cellsB {w : World} {blk o : Nat} {x : EvIn} (h : EvAt w blk o x) : ∃ dA dc rA rc, (∀ W, Below w.heap.size w W →
    (W.cell? ⟨blk, o, none⟩ = some (.int .i64 x.kc) ∧ W.cell? ⟨blk, o + 1, none⟩ = some (.int .i64 x.ks) ∧ W.cell? ⟨blk, o + 2, none⟩ = some (.bool x.done) ∧ W.cell? ⟨blk, o + 3, none⟩ = some (.bool x.unk) ∧ W.cell? ⟨blk, o + 4, none⟩ = some (.int .i64 x.call.k) ∧ W.cell? ⟨blk, o + 5, none⟩ = some (.string x.call.s) ∧
    W.cell? ⟨blk, o + 6, none⟩ = some (.int .i64 x.call.a) ∧ W.cell? ⟨blk, o + 7, none⟩ = some (.slice dA x.call.d.length dc) ∧ W.cell? ⟨blk, o + 8, none⟩ = some (.int .i64 x.call.n) ∧ W.cell? ⟨blk, o + 9, none⟩ = some (.int .i64 x.rep.code) ∧ W.cell? ⟨blk, o + 10, none⟩ = some (.int .i64 x.rep.size) ∧ W.cell? ⟨blk, o + 11, none⟩ = some (.slice rA x.rep.d.length rc))) ∧
    ReadsB w (.slice dA x.call.d.length dc) x.call.d ∧ ReadsB w (.slice rA x.rep.d.length rc) x.rep.d := by
  obtain ⟨dA, dc, rA, rc, ⟨e0, e1, e2, e3, e4, e5, e6, e7, e8, e9, e10, e11⟩, h1, h2⟩ := h.cells
  have t : ∀ W, Below w.heap.size w W → ∀ j u, w.cell? ⟨blk, j, none⟩ = some u → W.cell? ⟨blk, j, none⟩ = some u := fun W hb j u hu => (hb.cell (World.block_lt_of_cell? w _ hu)).trans hu
  exact ⟨dA, dc, rA, rc, fun W hb => ⟨t W hb _ _ e0, t W hb _ _ e1, t W hb _ _ e2, t W hb _ _ e3, t W hb _ _ e4, t W hb _ _ e5, t W hb _ _ e6, t W hb _ _ e7, t W hb _ _ e8, t W hb _ _ e9, t W hb _ _ e10, t W hb _ _ e11⟩, h1, h2⟩
theorem eq_key (x y a b : Int) (w : World) : (Op.equalIn 10000 42 (.agg #[.int .i64 x, .int .i64 y]) (.agg #[.int .i64 a, .int .i64 b])).run Try.prog w = .ok (x == a && y == b) w := by
  simp [go_sem]
  by_cases h1 : x = a <;> by_cases h2 : y = b <;> simp [h1, h2]
def endB (kc ks : Int) (x : EvIn) : Bool := x.done && (x.kc == kc && x.ks == ks)
theorem clo_any (eb : Nat) (kc ks : Int) (x : EvIn) (dA rA : Option Addr) (dn dc rn rc : Nat) (w : World) (h0 : w.cell? ⟨eb, 0, none⟩ = some (.int .i64 kc)) (h1 : w.cell? ⟨eb, 1, none⟩ = some (.int .i64 ks)) :
    Calls Try.prog 34 #[evV x (.slice dA dn dc) (.slice rA rn rc), .pointer (some ⟨eb, 0, none⟩)] w fun e w' => e = .returned (.bool (endB kc ks x)) ∧ Below w.heap.size w w' := by
  obtain ⟨xc, xk, done, unk, ⟨k, s, a, d, n⟩, ⟨code, size, rd⟩⟩ := x
  simp only [evV, endB]
  have k0 := fun o => (((Below.refl w.heap.size w).alloc (Nat.le_refl _) o).cell (World.block_lt_of_cell? w _ h0)).trans h0
  have k1 := fun o => (((Below.refl w.heap.size w).alloc (Nat.le_refl _) o).cell (World.block_lt_of_cell? w _ h1)).trans h1
  have HB : Hid (∀ o, Below w.heap.size w (w.alloc o)) := fun o => (Below.refl _ _).alloc (Nat.le_refl _) o
  have hE := fun W => eq_key xc xk kc ks W
  generalize (xc == kc && xk == ks) = E at *
  clear h0 h1
  cases done
  all_goals
    go_enter Try.func34, Try.ntmps34
    go_wp2_with fail
    go_ret
    exact ⟨by simp, HB.out _⟩

/-- where the first such event is; -1: nowhere -/
def endI (kc ks : Int) (xs : List EvIn) : Int := if xs.findIdx (endB kc ks) < xs.length then (xs.findIdx (endB kc ks) : Int) else -1
set_option maxHeartbeats 1000000 in
theorem idx_any (eb : Nat) (kc ks : Int) (v : Value) (xs : List EvIn) (w : World) (hv : ReadsEvs w v xs) (h0 : w.cell? ⟨eb, 0, none⟩ = some (.int .i64 kc)) (h1 : w.cell? ⟨eb, 1, none⟩ = some (.int .i64 ks)) (hn : xs.length ≤ 140737488351232) :
    Calls Try.prog 33 #[v, .func (.func 34) #[] #[.pointer (some ⟨eb, 0, none⟩)]] w fun e w' => e = .returned (.int .i64 (endI kc ks xs)) ∧ Below w.heap.size w w' := by
  obtain ⟨Av, cv, rfl⟩ := hv.slice
  have HV := Lib.hid hv
  have HK : Hid (∀ w', Below w.heap.size w w' → w'.cell? ⟨eb, 0, none⟩ = some (.int .i64 kc) ∧ w'.cell? ⟨eb, 1, none⟩ = some (.int .i64 ks)) := fun w' hb => ⟨(hb.cell (World.block_lt_of_cell? w _ h0)).trans h0, (hb.cell (World.block_lt_of_cell? w _ h1)).trans h1⟩
  have hM' : (xs.length : Int) ≤ 140737488351232 := by omega
  clear hv h0 h1 hn
  go_enter Try.func33, Try.ntmps33
  go_wp2_with fail
  go_loopw [8] (fun i wr => ∃ j : Nat, i = .int .i64 j ∧ j ≤ xs.length ∧ Hid (Below w.heap.size w wr ∧ ∀ k (hk : k < xs.length), k < j → endB kc ks (xs[k]'hk) = false)) (fun i _ => xs.length - (intOf i).toNat)
  case atStart => exact ⟨0, rfl, Nat.zero_le _, Below.refl _ _, fun k _ h => absurd h (Nat.not_lt_zero _)⟩
  case round =>
    obtain ⟨j, rfl, hjk, HJ⟩ := hrel
    obtain ⟨wL, rfl⟩ : ∃ wo : World, wo = wr := ⟨_, rfl⟩
    by_cases hj : j < xs.length
    · have hj' : (j : Int) < (xs.length : Int) := by omega
      have hj0 : (0 : Int) ≤ (j : Int) := by omega
      obtain ⟨bb, off, cc, hvv, hact⟩ := ReadsEvs.at_ (HV.out.below HJ.out.1) hj
      cases hvv
      obtain ⟨dA, dc, rA, rc, ⟨e0, e1, e2, e3, e4, e5, e6, e7, e8, e9, e10, e11⟩, _, _⟩ := hact.cells
      obtain ⟨q0, q1⟩ := HK.out wL HJ.out.1
      have HC := Lib.hid (clo_any eb kc ks (xs[j]'hj) dA rA (xs[j]'hj).call.d.length dc (xs[j]'hj).rep.d.length rc wL q0 q1)
      clear q0 q1 hact
      obtain ⟨x, hx⟩ : ∃ x, xs[j]'hj = x := ⟨_, rfl⟩
      rw [hx] at e0 e1 e2 e3 e4 e5 e6 e7 e8 e9 e10 e11 HC
      have HG := Lib.hid hx
      clear hx
      unfold evV at HC
      cases hq : endB kc ks x with
      | true =>
        rw [hq] at HC
        have HQ := Lib.hid hq
        clear hq
        go_wp2_with (go_at_call 34; refine HC.out.mono ?_; rintro e w2 ⟨rfl, hb2⟩)
        go_ret
        have hidx : xs.findIdx (endB kc ks) = j := by
          rw [List.findIdx_eq hj]
          refine ⟨by rw [HG.out]; exact HQ.out, fun k hk => ?_⟩
          have := HJ.out.2 k (by omega) hk
          simpa using this
        refine ⟨?_, HJ.out.1.trans (hb2.mono HJ.out.1.size)⟩
        unfold endI
        rw [hidx, if_pos hj]
        rfl
      | false =>
        rw [hq] at HC
        have HQ := Lib.hid hq
        clear hq
        go_wp2_with (go_at_call 34; refine HC.out.mono ?_; rintro e w2 ⟨rfl, hb2⟩)
        go_roundw
        case rel =>
          refine ⟨j + 1, by go_num, by omega, HJ.out.1.trans (hb2.mono HJ.out.1.size), fun k hk hlt => ?_⟩
          by_cases hkj : k = j
          · subst hkj; rw [HG.out]; exact HQ.out
          · exact HJ.out.2 k hk (by omega)
        case measure => simp [intOf]; omega
    · go_wp2_with fail
      go_ret
      have hidx : ¬ xs.findIdx (endB kc ks) < xs.length := by
        intro hlt
        have h1 := List.findIdx_getElem (w := hlt)
        rw [HJ.out.2 _ hlt (by omega)] at h1
        cases h1
      refine ⟨?_, HJ.out.1⟩
      unfold endI
      rw [if_neg hidx]
      rfl
end Go.Proofs.Ytbbbdhpihcbmmaa
