/- Next; the law's own small question. -/
import Derived.Test.YtaopfgoofhojeaaBal5
namespace Go.Proofs.Ytaopfgoofhojeaa
open Go.RowKit Own

/-- the next ballot -/
def nextB (s : Bal) (m : Int) : Bal × Bool :=
  if (!zeroB s && !mayB s) = true then (⟨0, 0⟩, false)
  else if (mayB ⟨s.r, m⟩ && lessB s ⟨s.r, m⟩) = true then (⟨s.r, m⟩, true)
  else if (mayB ⟨s.r + 1, m⟩ && lessB s ⟨s.r + 1, m⟩) = true then (⟨s.r + 1, m⟩, true)
  else (⟨0, 0⟩, false)
def NextPost (s : Bal) (m : Int) (w : World) (e : Ending) (w' : World) : Prop :=
  e = .returned (.tuple #[.agg #[.int .i64 (nextB s m).1.r, .int .i64 (nextB s m).1.m], .bool (nextB s m).2]) ∧ Below w.heap.size w w'
theorem nx3 {w w' : World} {r m : Int} {O3 : Obj} (hb : Below (((w.alloc (Obj.cells #[Value.int .i64 r, .int .i64 m] 23)).alloc (Obj.cells #[Value.int .i64 0, .int .i64 0] 23)).alloc O3).heap.size (((w.alloc (Obj.cells #[Value.int .i64 r, .int .i64 m] 23)).alloc (Obj.cells #[Value.int .i64 0, .int .i64 0] 23)).alloc O3) w') :
    (w'.cell? ⟨w.heap.size, 0, none⟩ = some (.int .i64 r) ∧ w'.cell? ⟨w.heap.size, 1, none⟩ = some (.int .i64 m)) ∧ (w'.cell? ⟨w.heap.size + 1, 0, none⟩ = some (.int .i64 0) ∧ w'.cell? ⟨w.heap.size + 1, 1, none⟩ = some (.int .i64 0) ∧ ∀ j, w'.frozen? ⟨w.heap.size + 1, j, none⟩ = false) ∧ w'.heap[w.heap.size + 2]? = some O3 ∧ Below w.heap.size w w' ∧ w.heap.size + 3 ≤ w'.heap.size := by
  obtain ⟨b1, b2, b3⟩ := three_blocks hb
  obtain ⟨k0, k1, _⟩ := cells2 b1
  refine ⟨⟨k0, k1⟩, cells2 b2, b3, ((((Below.refl _ _).alloc (Nat.le_refl _) _).alloc (by simp) _).alloc (by simp <;> omega) _).trans (hb.mono (by simp <;> omega)), ?_⟩
  have := hb.size
  simp at this
  omega
theorem nx2 {w w' : World} {r m : Int} (hb : Below ((w.alloc (Obj.cells #[Value.int .i64 r, .int .i64 m] 23)).alloc (Obj.cells #[Value.int .i64 0, .int .i64 0] 23)).heap.size ((w.alloc (Obj.cells #[Value.int .i64 r, .int .i64 m] 23)).alloc (Obj.cells #[Value.int .i64 0, .int .i64 0] 23)) w') :
    (w'.cell? ⟨w.heap.size, 0, none⟩ = some (.int .i64 r) ∧ w'.cell? ⟨w.heap.size, 1, none⟩ = some (.int .i64 m)) ∧ (w'.cell? ⟨w.heap.size + 1, 0, none⟩ = some (.int .i64 0) ∧ w'.cell? ⟨w.heap.size + 1, 1, none⟩ = some (.int .i64 0) ∧ ∀ j, w'.frozen? ⟨w.heap.size + 1, j, none⟩ = false) ∧ Below w.heap.size w w' ∧ w.heap.size + 2 ≤ w'.heap.size := by
  obtain ⟨b1, b2⟩ := two_blocks hb
  obtain ⟨k0, k1, _⟩ := cells2 b1
  refine ⟨⟨k0, k1⟩, cells2 b2, (((Below.refl _ _).alloc (Nat.le_refl _) _).alloc (by simp) _).trans (hb.mono (by simp <;> omega)), ?_⟩
  have := hb.size
  simp at this
  omega
/-- between two rounds -/
structure NX (w : World) (r m : Int) (g : Nat) (w' : World) : Prop where
  k : w'.heap[w.heap.size]? = some (.cells #[Value.int .i64 r, .int .i64 m] 23 (0, 0))
  z : w'.heap[w.heap.size + 1]? = some (.cells #[Value.int .i64 0, .int .i64 0] 23 (0, 0))
  s : w'.heap[g]? = some (.cells #[Value.int .i64 r, .int .i64 (r + 1)] 3 (0, 0))
  below : Below w.heap.size w w'
theorem NX.go {w w' w'' : World} {r m : Int} {g : Nat} (h : NX w r m g w') (hb : Below w'.heap.size w' w'') : NX w r m g w'' :=
  ⟨(hb.block _ (Array.getElem?_eq_some_iff.1 h.k).1).trans h.k, (hb.block _ (Array.getElem?_eq_some_iff.1 h.z).1).trans h.z, (hb.block _ (Array.getElem?_eq_some_iff.1 h.s).1).trans h.s, h.below.trans (hb.mono h.below.size)⟩

set_option maxHeartbeats 1000000 in
set_option maxRecDepth 100000 in
theorem next_in (r m mon : Int) (w : World) (hs : zeroB ⟨r, m⟩ = true ∨ mayB ⟨r, m⟩ = true) (hr0 : 0 ≤ r) (hr : r ≤ 2147483647) :
    Calls Try.prog 11 #[.agg #[.int .i64 r, .int .i64 m], .int .i64 mon] w (NextPost ⟨r, m⟩ mon w) := by
  have HZ := Lib.hid (fun w => zero_any r m w)
  have HM := Lib.hid (fun w => may_any r m w)
  have HM2 := Lib.hid (fun r w => may_any r mon w)
  have HL := Lib.hid (fun r2 w => less_any r m r2 mon w)
  have HV : Hid (nextB ⟨r, m⟩ mon = if (mayB ⟨r, mon⟩ && lessB ⟨r, m⟩ ⟨r, mon⟩) = true then (⟨r, mon⟩, true) else if (mayB ⟨r + 1, mon⟩ && lessB ⟨r, m⟩ ⟨r + 1, mon⟩) = true then (⟨r + 1, mon⟩, true) else (⟨0, 0⟩, false)) := by
    show _ = _
    unfold nextB
    rw [if_neg (by rcases hs with h | h <;> simp [h])]
  have hzm : zeroB ⟨r, m⟩ = true ∨ (zeroB ⟨r, m⟩ = false ∧ mayB ⟨r, m⟩ = true) := by
    rcases hs with h | h
    · exact .inl h
    · cases hz : zeroB ⟨r, m⟩
      · exact .inr ⟨rfl, h⟩
      · exact .inl rfl
  clear hs
  rcases hzm with h1 | ⟨h1, h2⟩
  all_goals
    rw [h1] at HZ
    (try rw [h2] at HM)
    clear h1
    (try clear h2)
    go_enter Try.func11, Try.ntmps11
    go_wp2_with (first
      | (go_at_call 22; refine (HZ.out _).mono ?_; rintro e wn ⟨rfl, hb⟩; have HBL := Lib.hid hb; obtain ⟨⟨k0, k1⟩, ⟨z0, z1, zf⟩, _⟩ := nx2 hb; clear hb)
      | (go_at_call 15; refine (HM.out _).mono ?_; rintro e wn ⟨rfl, hb⟩; replace HBL := Lib.hid (HBL.out.trans (hb.mono HBL.out.size)); obtain ⟨⟨k0, k1⟩, ⟨z0, z1, zf⟩, _⟩ := nx2 HBL.out; clear hb))
    have h0 : NX w r m wn.heap.size (wn.alloc (Obj.cells #[Value.int .i64 r, .int .i64 (r + 1)] 3)) := by
      have hbA := HBL.out.alloc HBL.out.size (Obj.cells #[Value.int .i64 r, .int .i64 (r + 1)] 3)
      obtain ⟨b1, b2⟩ := two_blocks hbA
      exact ⟨b1, b2, heap_alloc_new wn _, (nx2 hbA).2.2.1⟩
    have H0 := Lib.hid h0
    clear h0 HBL k0 k1 z0 z1 zf
    generalize wn.alloc (Obj.cells #[Value.int .i64 r, .int .i64 (r + 1)] 3) = W0 at *
    generalize wn.heap.size = g at *
    go_loopw [25] (fun i wr => ∃ j : Nat, i = .int .i64 j ∧ j ≤ 2 ∧ Hid (NX w r m g wr ∧ (1 ≤ j → (mayB ⟨r, mon⟩ && lessB ⟨r, m⟩ ⟨r, mon⟩) = false) ∧ (2 ≤ j → (mayB ⟨r + 1, mon⟩ && lessB ⟨r, m⟩ ⟨r + 1, mon⟩) = false))) (fun i _ => 2 - (intOf i).toNat)
    case atStart => exact ⟨0, rfl, by omega, H0.out, fun h => by omega, fun h => by omega⟩
    case round =>
      obtain ⟨j, rfl, hjk, HJ⟩ := hrel
      obtain ⟨wL, rfl⟩ : ∃ wo : World, wo = wr := ⟨_, rfl⟩
      clear H0
      rcases (by omega : j = 0 ∨ j = 1 ∨ j = 2) with rfl | rfl | rfl
      · have h0 : NX w r m g (wL.alloc (Obj.cells #[Value.int .i64 r, .int .i64 mon] 23)) := HJ.out.1.go ((Below.refl _ _).alloc (Nat.le_refl _) _)
        obtain ⟨s0, s1, _⟩ := cells2 HJ.out.1.s
        have N0 := Lib.hid h0
        have hbb := heap_alloc_new wL (Obj.cells #[Value.int .i64 r, .int .i64 mon] 23)
        have HBB := Lib.hid hbb
        have HLW : Hid (wL.heap.size < (wL.alloc (Obj.cells #[Value.int .i64 r, .int .i64 mon] 23)).heap.size) := by show _ < _; simp
        obtain ⟨q0, q1, _⟩ := cells2 hbb
        have HJ2 := Lib.hid HJ.out.2
        clear h0 hbb HJ
        have HMM := Lib.hid (HM2.out (r))
        have HLL := Lib.hid (HL.out (r))
        generalize hm1 : mayB ⟨r, mon⟩ = mb at HMM
        generalize hl1 : lessB ⟨r, m⟩ ⟨r, mon⟩ = lb at HLL
        have HM1 := Lib.hid hm1
        have HL1 := Lib.hid hl1
        clear hm1 hl1
        go_wp2_with (first
          | (go_at_call 15; refine (HMM.out _).mono ?_; rintro e w5 ⟨rfl, hb5⟩; have N5 := Lib.hid (N0.out.go hb5); have hq5 := (hb5.block _ HLW.out).trans HBB.out; have HQ5 := Lib.hid hq5; obtain ⟨q50, q51, _⟩ := cells2 hq5; obtain ⟨k50, k51, _⟩ := cells2 N5.out.k; obtain ⟨z50, z51, zf5⟩ := cells2 N5.out.z; obtain ⟨s50, s51, _⟩ := cells2 N5.out.s; have HBX := Lib.hid hb5; clear hb5 hq5)
          | (go_at_call 16; refine (HLL.out _).mono ?_; rintro e w6 ⟨rfl, hb6⟩; have N6 := Lib.hid (N5.out.go hb6); have hq6 := (hb6.block _ (Array.getElem?_eq_some_iff.1 HQ5.out).1).trans HQ5.out; obtain ⟨q60, q61, _⟩ := cells2 hq6; obtain ⟨z60, z61, zf6⟩ := cells2 N6.out.z; clear hb6 hq6))
        · have hmb : mb = true := by assumption
          have hlb : lb = true := by assumption
          refine bodyPost_ret (v := .tuple #[.agg #[.int .i64 (r), .int .i64 mon], .bool true]) (by simp [results, Try.results11, go_sem, *]) rfl ⟨?_, (N6.out.below.setCell (by simp) _).setCell (by simp) _⟩
          rw [HV.out, HM1.out, HL1.out, hmb, hlb]
          rfl
        · have hlb : lb = false := by assumption
          go_roundw
          case rel => exact ⟨1, rfl, by omega, N6.out, fun _ => by simp [hlb], fun h => by omega⟩
          case measure => simp [intOf]
        · have hmb : ¬ mb = true := by assumption
          go_roundw
          case rel => exact ⟨1, rfl, by omega, N5.out, fun _ => by simp [hmb], fun h => by omega⟩
          case measure => simp [intOf]
      · have h0 : NX w r m g (wL.alloc (Obj.cells #[Value.int .i64 (r + 1), .int .i64 mon] 23)) := HJ.out.1.go ((Below.refl _ _).alloc (Nat.le_refl _) _)
        obtain ⟨s0, s1, _⟩ := cells2 HJ.out.1.s
        have N0 := Lib.hid h0
        have hbb := heap_alloc_new wL (Obj.cells #[Value.int .i64 (r + 1), .int .i64 mon] 23)
        have HBB := Lib.hid hbb
        have HLW : Hid (wL.heap.size < (wL.alloc (Obj.cells #[Value.int .i64 (r + 1), .int .i64 mon] 23)).heap.size) := by show _ < _; simp
        obtain ⟨q0, q1, _⟩ := cells2 hbb
        have HJ2 := Lib.hid HJ.out.2
        clear h0 hbb HJ
        have HMM := Lib.hid (HM2.out (r + 1))
        have HLL := Lib.hid (HL.out (r + 1))
        generalize hm1 : mayB ⟨r + 1, mon⟩ = mb at HMM
        generalize hl1 : lessB ⟨r, m⟩ ⟨r + 1, mon⟩ = lb at HLL
        have HM1 := Lib.hid hm1
        have HL1 := Lib.hid hl1
        clear hm1 hl1
        go_wp2_with (first
          | (go_at_call 15; refine (HMM.out _).mono ?_; rintro e w5 ⟨rfl, hb5⟩; have N5 := Lib.hid (N0.out.go hb5); have hq5 := (hb5.block _ HLW.out).trans HBB.out; have HQ5 := Lib.hid hq5; obtain ⟨q50, q51, _⟩ := cells2 hq5; obtain ⟨k50, k51, _⟩ := cells2 N5.out.k; obtain ⟨z50, z51, zf5⟩ := cells2 N5.out.z; obtain ⟨s50, s51, _⟩ := cells2 N5.out.s; have HBX := Lib.hid hb5; clear hb5 hq5)
          | (go_at_call 16; refine (HLL.out _).mono ?_; rintro e w6 ⟨rfl, hb6⟩; have N6 := Lib.hid (N5.out.go hb6); have hq6 := (hb6.block _ (Array.getElem?_eq_some_iff.1 HQ5.out).1).trans HQ5.out; obtain ⟨q60, q61, _⟩ := cells2 hq6; obtain ⟨z60, z61, zf6⟩ := cells2 N6.out.z; clear hb6 hq6))
        · have hmb : mb = true := by assumption
          have hlb : lb = true := by assumption
          refine bodyPost_ret (v := .tuple #[.agg #[.int .i64 (r + 1), .int .i64 mon], .bool true]) (by simp [results, Try.results11, go_sem, *]) rfl ⟨?_, (N6.out.below.setCell (by simp) _).setCell (by simp) _⟩
          rw [HV.out, if_neg (by rw [HJ2.out.1 (Nat.le_refl _)]; simp), HM1.out, HL1.out, hmb, hlb]
          rfl
        · have hlb : lb = false := by assumption
          go_roundw
          case rel => exact ⟨2, rfl, by omega, N6.out, fun _ => HJ2.out.1 (by omega), fun _ => by simp [hlb]⟩
          case measure => simp [intOf]
        · have hmb : ¬ mb = true := by assumption
          go_roundw
          case rel => exact ⟨2, rfl, by omega, N5.out, fun _ => HJ2.out.1 (by omega), fun _ => by simp [hmb]⟩
          case measure => simp [intOf]
      · obtain ⟨z60, z61, zf6⟩ := cells2 HJ.out.1.z
        have HJ2 := Lib.hid HJ.out
        clear HJ
        go_wp2_with fail
        refine bodyPost_ret (v := .tuple #[.agg #[.int .i64 0, .int .i64 0], .bool false]) (by simp [results, Try.results11, go_sem, *]) rfl ⟨?_, (HJ2.out.1.below.setCell (by simp) _).setCell (by simp) _⟩
        rw [HV.out, if_neg (by rw [HJ2.out.2.1 (by omega)]; simp), if_neg (by rw [HJ2.out.2.2 (by omega)]; simp)]
end Go.Proofs.Ytaopfgoofhojeaa
