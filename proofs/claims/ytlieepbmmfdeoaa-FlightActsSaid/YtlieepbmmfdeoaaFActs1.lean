/- FlightActs: both loops. -/
import Derived.Test.YtlieepbmmfdeoaaFActs0
import Derived.Deep.RegionHeld3
namespace Go.Proofs.Ytlieepbmmfdeoaa.flightActs
open Go.RowKit Own

set_option maxHeartbeats 4000000 in
set_option maxRecDepth 100000 in
theorem walk (v : Value) (xs : List ActIn) (hok : ∀ x ∈ xs, ActOk x) (w : World) (hv : ReadsActs w v xs) :
    Calls Try.prog 6 #[v] w fun e w' => e = .returned (.bool true) ∧ Below w.heap.size w w' := by
  have H1 := Lib.hid (fl_new w)
  obtain ⟨Av, cv, rfl⟩ := hv.slice
  have HV := Lib.hid hv
  have HO := Lib.hid hok
  clear hv hok
  go_enter Try.func6, Try.ntmps6
  go_wp2_with (go_at_call 8; refine H1.out.mono ?_; rintro e w1 ⟨fb, mb, rfl, hf⟩; have HFl := Lib.hid hf; clear hf H1)
  have HS : Hid (JS w fb mb w1.heap.size 0 (w1.alloc (.cells #[.slice none 0 0, .slice none 0 0] 43))) := by
    have hf := HFl.out
    have hb : Below w1.heap.size w1 (w1.alloc (.cells #[.slice none 0 0, .slice none 0 0] 43)) := (Below.refl _ _).alloc (Nat.le_refl _) _
    exact ⟨_, _, _, _, .slice none 0 0, .slice none 0 0, [], [], hf.go hb, ⟨hf.below.size, heap_alloc_new w1 _, World.ownsRow_nil _ _ _ _, World.ownsRow_nil _ _ _ _⟩, rfl, PKeys.nil, Nat.le_refl _, Nat.le_refl _⟩
  generalize w1.alloc (.cells #[.slice none 0 0, .slice none 0 0] 43) = wS at *
  generalize w1.heap.size = rb at *
  clear HFl
  go_loopw [5] (fun i wr => ∃ j : Nat, i = .int .i64 j ∧ j ≤ 500 ∧ j ≤ xs.length ∧ Hid (JS w fb mb rb j wr)) (fun i _ => xs.length - (intOf i).toNat)
  case atStart => exact ⟨0, rfl, Nat.zero_le _, Nat.zero_le _, HS⟩
  case round =>
    obtain ⟨j, rfl, hj5, hjk, HJ⟩ := hrel
    obtain ⟨wL, rfl⟩ : ∃ wo : World, wo = wr := ⟨_, rfl⟩
    clear HS
    by_cases hj : j < xs.length ∧ j < 500
    · have hj1 : (j : Int) < (xs.length : Int) := by omega
      have hj2 : (j : Int) < 500 := by omega
      have hj0 : (0 : Int) ≤ (j : Int) := by omega
      obtain ⟨bb, off, cc, hvv, hact⟩ := HV.out.at_ hj.1
      cases hvv
      have hxo := HO.out _ (List.getElem_mem hj.1)
      generalize xs[j]'hj.1 = x at *
      obtain ⟨dv, e0', e1', e2', e3', hrd⟩ := hact
      have hlt : bb < w.heap.size := World.block_lt_of_cell? w _ e0'
      have HC : Hid (∀ w', Below w.heap.size w w' → w'.cell? ⟨bb, off + j * 4, none⟩ = some (.int .i64 x.d) ∧ w'.cell? ⟨bb, off + j * 4 + 1, none⟩ = some (.int .i64 x.a) ∧ w'.cell? ⟨bb, off + j * 4 + 2, none⟩ = some (.int .i64 x.b) ∧ w'.cell? ⟨bb, off + j * 4 + 3, none⟩ = some dv) := fun w' hb =>
        ⟨(hb.cell (p := ⟨bb, off + j * 4, none⟩) hlt).trans e0', (hb.cell (p := ⟨bb, off + j * 4 + 1, none⟩) hlt).trans e1', (hb.cell (p := ⟨bb, off + j * 4 + 2, none⟩) hlt).trans e2', (hb.cell (p := ⟨bb, off + j * 4 + 3, none⟩) hlt).trans e3'⟩
      have HD := Lib.hid (c_does (HJ.out.go (w' := wL.drew) ⟨rfl, rfl, rfl, Nat.le_refl _, fun _ _ => rfl⟩) (by omega) x hxo dv hrd)
      have HXO := Lib.hid hxo
      obtain ⟨e0, e1, e2, e3⟩ := HC.out wL HJ.out.below
      clear HJ hrd e0' e1' e2' e3' hlt hxo
      go_wp2_with fail
      refine wp_region_held_drew (S := (fun w' : World => w'.cell? ⟨bb, off + j * 4, none⟩ = some (.int .i64 x.d) ∧ w'.cell? ⟨bb, off + j * 4 + 1, none⟩ = some (.int .i64 x.a) ∧ w'.cell? ⟨bb, off + j * 4 + 2, none⟩ = some (.int .i64 x.b) ∧ w'.cell? ⟨bb, off + j * 4 + 3, none⟩ = some dv)) (by kernel_rfl) ⟨e0, e1, e2, e3⟩ (fun hHeld => ?_)
      refine wpAnyH_take (i := 0) (oi := ?_) (v := ?_) ?_ (by kernel_rfl) (by kernel_rfl) (by kernel_rfl) ?_ (Or.inl ⟨?_, ?_⟩) hHeld ?_
      rotate_left 2
      · (simp only [List.getElem?_toArray, List.getElem?_cons_zero]; rfl)
      · exact fun _ _ _ h => h
      · rfl
      · (intro w' hSw; (try dsimp only at hSw); go_simp; first | done | with_reducible rfl)
      try simp only [Act.put, List.setIfInBounds_toArray, List.set_cons_zero, List.set_cons_succ]
      refine wpAnyH_take (i := 1) (oi := ?_) (v := ?_) ?_ (by kernel_rfl) (by kernel_rfl) (by kernel_rfl) ?_ (Or.inl ⟨?_, ?_⟩) hHeld ?_
      rotate_left 2
      · (simp only [List.getElem?_toArray, List.getElem?_cons_succ, List.getElem?_cons_zero]; rfl)
      · exact fun _ _ _ h => h
      · rfl
      · (intro w' hSw; (try dsimp only at hSw); go_simp; first | done | with_reducible rfl)
      try simp only [Act.put, List.setIfInBounds_toArray, List.set_cons_zero, List.set_cons_succ]
      refine wpAnyH_take (i := 2) (oi := ?_) (v := ?_) ?_ (by kernel_rfl) (by kernel_rfl) (by kernel_rfl) ?_ (Or.inl ⟨?_, ?_⟩) hHeld ?_
      rotate_left 2
      · (simp only [List.getElem?_toArray, List.getElem?_cons_succ, List.getElem?_cons_zero]; rfl)
      · exact fun _ _ _ h => h
      · rfl
      · (intro w' hSw; (try dsimp only at hSw); go_simp; first | done | with_reducible rfl)
      try simp only [Act.put, List.setIfInBounds_toArray, List.set_cons_zero, List.set_cons_succ]
      refine wpAnyH_take (i := 3) (oi := ?_) (v := ?_) ?_ (by kernel_rfl) (by kernel_rfl) (by kernel_rfl) ?_ (Or.inl ⟨?_, ?_⟩) hHeld ?_
      rotate_left 2
      · (simp only [List.getElem?_toArray, List.getElem?_cons_succ, List.getElem?_cons_zero]; rfl)
      · exact fun _ _ _ h => h
      · rfl
      · (intro w' hSw; (try dsimp only at hSw); go_simp; first | done | with_reducible rfl)
      try simp only [Act.put, List.setIfInBounds_toArray, List.set_cons_zero, List.set_cons_succ]
      refine wpAnyH_take (i := 4) (oi := ?_) (v := ?_) ?_ (by kernel_rfl) (by kernel_rfl) (by kernel_rfl) ?_ (Or.inl ⟨?_, ?_⟩) hHeld ?_
      rotate_left 2
      · (simp only [List.getElem?_toArray, List.getElem?_cons_succ, List.getElem?_cons_zero]; rfl)
      · exact fun _ _ _ h => h
      · rfl
      · (intro w' hSw; (try dsimp only at hSw); go_simp; first | done | with_reducible rfl)
      try simp only [Act.put, List.setIfInBounds_toArray, List.set_cons_zero, List.set_cons_succ]
      refine wpAnyH_take (i := 5) (oi := ?_) (v := ?_) ?_ (by kernel_rfl) (by kernel_rfl) (by kernel_rfl) ?_ (Or.inl ⟨?_, ?_⟩) hHeld ?_
      rotate_left 2
      · (simp only [List.getElem?_toArray, List.getElem?_cons_succ, List.getElem?_cons_zero]; rfl)
      · exact fun _ _ _ h => h
      · rfl
      · (intro w' hSw; (try dsimp only at hSw); go_simp; first | done | with_reducible rfl)
      try simp only [Act.put, List.setIfInBounds_toArray, List.set_cons_zero, List.set_cons_succ]
      refine wpAnyH_ready (rs := [6]) (by kernel_rfl) (by simp) ?_
      refine AllReadyH.cons rfl (fun K hK => ?_) AllReadyH.nil
      go_simp
      go_at_call 15
      refine HD.out.mono ?_
      rintro e w5 ⟨rfl, hjs⟩
      obtain ⟨f0, f1, f2, f3⟩ := HC.out w5 hjs.below
      obtain ⟨len, q, Am, cm, hc1, hc2, hc3, hc4⟩ := c_after hjs (by omega) x.a x.b HXO.out.a HXO.out.b
      have HC1 := Lib.hid hc1
      have q0 := hc2 w5 (Below.refl _ _)
      have HC2 := Lib.hid hc2
      have HC3 := Lib.hid hc3
      have HC4 := Lib.hid hc4
      have HJS := Lib.hid hjs
      have hq1 : ((len : Int) != (len : Int)) = false := by simp
      have hq2 : (q != q) = false := by simp
      clear hjs hc1 hc2 hc3 hc4 hHeld
      refine hK.out _ _ ⟨f0, f1, f2, f3⟩ (fun _ => ?_)
      refine wpAnyH_mono (S' := (fun w' : World => w'.cell? ⟨bb, off + j * 4, none⟩ = some (.int .i64 x.d) ∧ w'.cell? ⟨bb, off + j * 4 + 1, none⟩ = some (.int .i64 x.a) ∧ w'.cell? ⟨bb, off + j * 4 + 2, none⟩ = some (.int .i64 x.b) ∧ w'.cell? ⟨bb, off + j * 4 + 3, none⟩ = some dv ∧ w'.cell? ⟨rb, 0, none⟩ = some (.slice Am len cm))) (fun _ h => ⟨h.1, h.2.1, h.2.2.1, h.2.2.2.1⟩) _ _ _ _ ?_
      have hHeld : (fun w' : World => w'.cell? ⟨bb, off + j * 4, none⟩ = some (.int .i64 x.d) ∧ w'.cell? ⟨bb, off + j * 4 + 1, none⟩ = some (.int .i64 x.a) ∧ w'.cell? ⟨bb, off + j * 4 + 2, none⟩ = some (.int .i64 x.b) ∧ w'.cell? ⟨bb, off + j * 4 + 3, none⟩ = some dv ∧ w'.cell? ⟨rb, 0, none⟩ = some (.slice Am len cm)) w5 := ⟨f0, f1, f2, f3, q0⟩
      clear hK K f0 f1 f2 f3 q0
      try simp only [Act.put, List.setIfInBounds_toArray, List.set_cons_zero, List.set_cons_succ]
      refine wpAnyH_take (i := 7) (oi := ?_) (v := ?_) ?_ (by kernel_rfl) (by kernel_rfl) (by kernel_rfl) ?_ (Or.inl ⟨?_, ?_⟩) hHeld ?_
      rotate_left 2
      · (simp only [List.getElem?_toArray, List.getElem?_cons_succ, List.getElem?_cons_zero]; rfl)
      · exact fun _ _ _ h => h
      · rfl
      · (intro w' hSw; (try dsimp only at hSw); go_simp; first | done | with_reducible rfl)
      try simp only [Act.put, List.setIfInBounds_toArray, List.set_cons_zero, List.set_cons_succ]
      refine wpAnyH_take (i := 8) (oi := ?_) (v := ?_) ?_ (by kernel_rfl) (by kernel_rfl) (by kernel_rfl) ?_ (Or.inl ⟨?_, ?_⟩) hHeld ?_
      rotate_left 2
      · (simp only [List.getElem?_toArray, List.getElem?_cons_succ, List.getElem?_cons_zero]; rfl)
      · exact fun _ _ _ h => h
      · rfl
      · (intro w' hSw; (try dsimp only at hSw); go_simp; first | done | with_reducible rfl)
      try simp only [Act.put, List.setIfInBounds_toArray, List.set_cons_zero, List.set_cons_succ]
      refine wpAnyH_take (i := 9) (oi := ?_) (v := ?_) ?_ (by kernel_rfl) (by kernel_rfl) (by kernel_rfl) ?_ (Or.inl ⟨?_, ?_⟩) hHeld ?_
      rotate_left 2
      · (simp only [List.getElem?_toArray, List.getElem?_cons_succ, List.getElem?_cons_zero]; rfl)
      · exact fun _ _ _ h => h
      · rfl
      · (intro w' hSw; (try dsimp only at hSw); go_simp; first | done | with_reducible rfl)
      try simp only [Act.put, List.setIfInBounds_toArray, List.set_cons_zero, List.set_cons_succ]
      refine wpAnyH_take (i := 11) (oi := ?_) (v := ?_) ?_ (by kernel_rfl) (by kernel_rfl) (by kernel_rfl) ?_ (Or.inl ⟨?_, ?_⟩) hHeld ?_
      rotate_left 2
      · (simp only [List.getElem?_toArray, List.getElem?_cons_succ, List.getElem?_cons_zero]; rfl)
      · exact fun _ _ _ h => h
      · rfl
      · (intro w' hSw; (try dsimp only at hSw); go_simp; first | done | with_reducible rfl)
      try simp only [Act.put, List.setIfInBounds_toArray, List.set_cons_zero, List.set_cons_succ]
      refine wpAnyH_take (i := 12) (oi := ?_) (v := ?_) ?_ (by kernel_rfl) (by kernel_rfl) (by kernel_rfl) ?_ (Or.inl ⟨?_, ?_⟩) hHeld ?_
      rotate_left 2
      · (simp only [List.getElem?_toArray, List.getElem?_cons_succ, List.getElem?_cons_zero]; rfl)
      · exact fun _ _ _ h => h
      · rfl
      · (intro w' hSw; (try dsimp only at hSw); go_simp; first | done | with_reducible rfl)
      try simp only [Act.put, List.setIfInBounds_toArray, List.set_cons_zero, List.set_cons_succ]
      refine wpAnyH_take (i := 13) (oi := ?_) (v := ?_) ?_ (by kernel_rfl) (by kernel_rfl) (by kernel_rfl) ?_ (Or.inl ⟨?_, ?_⟩) hHeld ?_
      rotate_left 2
      · (simp only [List.getElem?_toArray, List.getElem?_cons_succ, List.getElem?_cons_zero]; rfl)
      · exact fun _ _ _ h => h
      · rfl
      · (intro w' hSw; (try dsimp only at hSw); go_simp; first | done | with_reducible rfl)
      try simp only [Act.put, List.setIfInBounds_toArray, List.set_cons_zero, List.set_cons_succ]
      refine wpAnyH_take (i := 14) (oi := ?_) (v := ?_) ?_ (by kernel_rfl) (by kernel_rfl) (by kernel_rfl) ?_ (Or.inl ⟨?_, ?_⟩) hHeld ?_
      rotate_left 2
      · (simp only [List.getElem?_toArray, List.getElem?_cons_succ, List.getElem?_cons_zero]; rfl)
      · exact fun _ _ _ h => h
      · rfl
      · (intro w' hSw; (try dsimp only at hSw); go_simp; first | done | with_reducible rfl)
      try simp only [Act.put, List.setIfInBounds_toArray, List.set_cons_zero, List.set_cons_succ]
      refine wpAnyH_take (i := 15) (oi := ?_) (v := ?_) ?_ (by kernel_rfl) (by kernel_rfl) (by kernel_rfl) ?_ (Or.inl ⟨?_, ?_⟩) hHeld ?_
      rotate_left 2
      · (simp only [List.getElem?_toArray, List.getElem?_cons_succ, List.getElem?_cons_zero]; rfl)
      · exact fun _ _ _ h => h
      · rfl
      · (intro w' hSw; (try dsimp only at hSw); go_simp; first | done | with_reducible rfl)
      try simp only [Act.put, List.setIfInBounds_toArray, List.set_cons_zero, List.set_cons_succ]
      refine wpAnyH_ready (rs := [10]) (by kernel_rfl) (by simp) ?_
      refine AllReadyH.cons rfl (fun K hK => ?_) AllReadyH.nil
      go_simp
      go_at_call 16
      refine (HC1.out w5 (Below.refl _ _)).mono ?_
      rintro e w6 ⟨rfl, rfl⟩
      refine hK.out _ _ hHeld (fun _ => ?_)
      clear hK K
      try simp only [Act.put, List.setIfInBounds_toArray, List.set_cons_zero, List.set_cons_succ]
      refine wpAnyH_take (i := 16) (oi := ?_) (v := ?_) ?_ (by kernel_rfl) (by kernel_rfl) (by kernel_rfl) ?_ (Or.inl ⟨?_, ?_⟩) hHeld ?_
      rotate_left 2
      · (simp only [List.getElem?_toArray, List.getElem?_cons_succ, List.getElem?_cons_zero]; rfl)
      · exact fun _ _ _ h => h
      · rfl
      · (intro w' hSw; (try dsimp only at hSw); go_simp; first | done | with_reducible rfl)
      try simp only [Act.put, List.setIfInBounds_toArray, List.set_cons_zero, List.set_cons_succ]
      refine wpAnyH_take (i := 17) (oi := ?_) (v := ?_) ?_ (by kernel_rfl) (by kernel_rfl) (by kernel_rfl) ?_ (Or.inl ⟨?_, ?_⟩) hHeld ?_
      rotate_left 2
      · (simp only [List.getElem?_toArray, List.getElem?_cons_succ, List.getElem?_cons_zero]; rfl)
      · exact fun _ _ _ h => h
      · rfl
      · (intro w' hSw; (try dsimp only at hSw); go_simp; first | done | with_reducible rfl)
      try simp only [Act.put, List.setIfInBounds_toArray, List.set_cons_zero, List.set_cons_succ]
      refine wpAnyH_take (i := 18) (oi := ?_) (v := ?_) ?_ (by kernel_rfl) (by kernel_rfl) (by kernel_rfl) ?_ (Or.inl ⟨?_, ?_⟩) hHeld ?_
      rotate_left 2
      · (simp only [List.getElem?_toArray, List.getElem?_cons_succ, List.getElem?_cons_zero]; rfl)
      · exact fun _ _ _ h => h
      · rfl
      · (intro w' hSw; (try dsimp only at hSw); go_simp; first | done | with_reducible rfl)
      try simp only [Act.put, List.setIfInBounds_toArray, List.set_cons_zero, List.set_cons_succ]
      refine wpAnyH_take (i := 19) (oi := ?_) (v := ?_) ?_ (by kernel_rfl) (by kernel_rfl) (by kernel_rfl) ?_ (Or.inl ⟨?_, ?_⟩) hHeld ?_
      rotate_left 2
      · (simp only [List.getElem?_toArray, List.getElem?_cons_succ, List.getElem?_cons_zero]; rfl)
      · exact fun _ _ _ h => h
      · rfl
      · (intro w' hSw; (try dsimp only at hSw); go_simp; first | done | with_reducible rfl)
      try simp only [Act.put, List.setIfInBounds_toArray, List.set_cons_zero, List.set_cons_succ]
      refine wpAnyH_take (i := 20) (oi := ?_) (v := ?_) ?_ (by kernel_rfl) (by kernel_rfl) (by kernel_rfl) ?_ (Or.inl ⟨?_, ?_⟩) hHeld ?_
      rotate_left 2
      · (simp only [List.getElem?_toArray, List.getElem?_cons_succ, List.getElem?_cons_zero]; rfl)
      · exact fun _ _ _ h => h
      · rfl
      · (intro w' hSw; (try dsimp only at hSw); go_simp; first | done | with_reducible rfl)
      try simp only [Act.put, List.setIfInBounds_toArray, List.set_cons_zero, List.set_cons_succ]
      refine wpAnyH_take (i := 21) (oi := ?_) (v := ?_) ?_ (by kernel_rfl) (by kernel_rfl) (by kernel_rfl) ?_ (Or.inl ⟨?_, ?_⟩) hHeld ?_
      rotate_left 2
      · (simp only [List.getElem?_toArray, List.getElem?_cons_succ, List.getElem?_cons_zero]; rfl)
      · exact fun _ _ _ h => h
      · rfl
      · (intro w' hSw; (try dsimp only at hSw); go_simp; first | done | with_reducible rfl)
      try simp only [Act.put, List.setIfInBounds_toArray, List.set_cons_zero, List.set_cons_succ]
      refine wpAnyH_take (i := 22) (oi := ?_) (v := ?_) ?_ (by kernel_rfl) (by kernel_rfl) (by kernel_rfl) ?_ (Or.inl ⟨?_, ?_⟩) hHeld ?_
      rotate_left 2
      · (simp only [List.getElem?_toArray, List.getElem?_cons_succ, List.getElem?_cons_zero]; rfl)
      · exact fun _ _ _ h => h
      · rfl
      · (intro w' hSw; (try dsimp only at hSw); go_simp; first | done | with_reducible rfl)
      try simp only [Act.put, List.setIfInBounds_toArray, List.set_cons_zero, List.set_cons_succ]
      refine wpAnyH_take (i := 23) (oi := ?_) (v := ?_) ?_ (by kernel_rfl) (by kernel_rfl) (by kernel_rfl) ?_ (Or.inl ⟨?_, ?_⟩) hHeld ?_
      rotate_left 2
      · (simp only [List.getElem?_toArray, List.getElem?_cons_succ, List.getElem?_cons_zero]; rfl)
      · exact fun _ _ _ h => h
      · rfl
      · (intro w' hSw; (try dsimp only at hSw); go_simp; first | done | with_reducible rfl)
      try simp only [Act.put, List.setIfInBounds_toArray, List.set_cons_zero, List.set_cons_succ]
      refine wpAnyH_take (i := 24) (oi := ?_) (v := ?_) ?_ (by kernel_rfl) (by kernel_rfl) (by kernel_rfl) ?_ (Or.inl ⟨?_, ?_⟩) hHeld ?_
      rotate_left 2
      · (simp only [List.getElem?_toArray, List.getElem?_cons_succ, List.getElem?_cons_zero]; rfl)
      · exact fun _ _ _ h => h
      · rfl
      · (intro w' hSw; (try dsimp only at hSw); go_simp; first | done | with_reducible rfl)
      try simp only [Act.put, List.setIfInBounds_toArray, List.set_cons_zero, List.set_cons_succ]
      refine wpAnyH_take (i := 25) (oi := ?_) (v := ?_) ?_ (by kernel_rfl) (by kernel_rfl) (by kernel_rfl) ?_ (Or.inl ⟨?_, ?_⟩) hHeld ?_
      rotate_left 2
      · (simp only [List.getElem?_toArray, List.getElem?_cons_succ, List.getElem?_cons_zero]; rfl)
      · exact fun _ _ _ h => h
      · rfl
      · (intro w' hSw; (try dsimp only at hSw); go_simp; first | done | with_reducible rfl)
      try simp only [Act.put, List.setIfInBounds_toArray, List.set_cons_zero, List.set_cons_succ]
      refine wpAnyH_take (i := 26) (oi := ?_) (v := ?_) ?_ (by kernel_rfl) (by kernel_rfl) (by kernel_rfl) ?_ (Or.inl ⟨?_, ?_⟩) hHeld ?_
      rotate_left 2
      · (simp only [List.getElem?_toArray, List.getElem?_cons_succ, List.getElem?_cons_zero]; rfl)
      · exact fun _ _ _ h => h
      · rfl
      · (intro w' hSw; (try dsimp only at hSw); go_simp; first | done | with_reducible rfl)
      try simp only [Act.put, List.setIfInBounds_toArray, List.set_cons_zero, List.set_cons_succ]
      refine wpAnyH_take (i := 27) (oi := ?_) (v := ?_) ?_ (by kernel_rfl) (by kernel_rfl) (by kernel_rfl) ?_ (Or.inl ⟨?_, ?_⟩) hHeld ?_
      rotate_left 2
      · (simp only [List.getElem?_toArray, List.getElem?_cons_succ, List.getElem?_cons_zero]; rfl)
      · exact fun _ _ _ h => h
      · rfl
      · (intro w' hSw; (try dsimp only at hSw); go_simp; first | done | with_reducible rfl)
      try simp only [Act.put, List.setIfInBounds_toArray, List.set_cons_zero, List.set_cons_succ]
      refine wpAnyH_take (i := 28) (oi := ?_) (v := ?_) ?_ (by kernel_rfl) (by kernel_rfl) (by kernel_rfl) ?_ (Or.inl ⟨?_, ?_⟩) hHeld ?_
      rotate_left 2
      · (simp only [List.getElem?_toArray, List.getElem?_cons_succ, List.getElem?_cons_zero]; rfl)
      · exact fun _ _ _ h => h
      · rfl
      · (intro w' hSw; (try dsimp only at hSw); go_simp; first | done | with_reducible rfl)
      try simp only [Act.put, List.setIfInBounds_toArray, List.set_cons_zero, List.set_cons_succ]
      refine wpAnyH_take (i := 29) (oi := ?_) (v := ?_) ?_ (by kernel_rfl) (by kernel_rfl) (by kernel_rfl) ?_ (Or.inl ⟨?_, ?_⟩) hHeld ?_
      rotate_left 2
      · (simp only [List.getElem?_toArray, List.getElem?_cons_succ, List.getElem?_cons_zero]; rfl)
      · exact fun _ _ _ h => h
      · rfl
      · (intro w' hSw; (try dsimp only at hSw); go_simp; first | done | with_reducible rfl)
      try simp only [Act.put, List.setIfInBounds_toArray, List.set_cons_zero, List.set_cons_succ]
      refine wpAnyH_take (i := 31) (oi := ?_) (v := ?_) ?_ (by kernel_rfl) (by kernel_rfl) (by kernel_rfl) ?_ (Or.inl ⟨?_, ?_⟩) hHeld ?_
      rotate_left 2
      · (simp only [List.getElem?_toArray, List.getElem?_cons_succ, List.getElem?_cons_zero]; rfl)
      · exact fun _ _ _ h => h
      · rfl
      · (intro w' hSw; (try dsimp only at hSw); go_simp; first | done | with_reducible rfl)
      try simp only [Act.put, List.setIfInBounds_toArray, List.set_cons_zero, List.set_cons_succ]
      refine wpAnyH_take (i := 32) (oi := ?_) (v := ?_) ?_ (by kernel_rfl) (by kernel_rfl) (by kernel_rfl) ?_ (Or.inl ⟨?_, ?_⟩) hHeld ?_
      rotate_left 2
      · (simp only [List.getElem?_toArray, List.getElem?_cons_succ, List.getElem?_cons_zero]; rfl)
      · exact fun _ _ _ h => h
      · rfl
      · (intro w' hSw; (try dsimp only at hSw); go_simp; first | done | with_reducible rfl)
      try simp only [Act.put, List.setIfInBounds_toArray, List.set_cons_zero, List.set_cons_succ]
      refine wpAnyH_take (i := 33) (oi := ?_) (v := ?_) ?_ (by kernel_rfl) (by kernel_rfl) (by kernel_rfl) ?_ (Or.inl ⟨?_, ?_⟩) hHeld ?_
      rotate_left 2
      · (simp only [List.getElem?_toArray, List.getElem?_cons_succ, List.getElem?_cons_zero]; rfl)
      · exact fun _ _ _ h => h
      · rfl
      · (intro w' hSw; (try dsimp only at hSw); go_simp; first | done | with_reducible rfl)
      try simp only [Act.put, List.setIfInBounds_toArray, List.set_cons_zero, List.set_cons_succ]
      refine wpAnyH_take (i := 34) (oi := ?_) (v := ?_) ?_ (by kernel_rfl) (by kernel_rfl) (by kernel_rfl) ?_ (Or.inl ⟨?_, ?_⟩) hHeld ?_
      rotate_left 2
      · (simp only [List.getElem?_toArray, List.getElem?_cons_succ, List.getElem?_cons_zero]; rfl)
      · exact fun _ _ _ h => h
      · rfl
      · (intro w' hSw; (try dsimp only at hSw); go_simp; first | done | with_reducible rfl)
      try simp only [Act.put, List.setIfInBounds_toArray, List.set_cons_zero, List.set_cons_succ]
      refine wpAnyH_take (i := 35) (oi := ?_) (v := ?_) ?_ (by kernel_rfl) (by kernel_rfl) (by kernel_rfl) ?_ (Or.inl ⟨?_, ?_⟩) hHeld ?_
      rotate_left 2
      · (simp only [List.getElem?_toArray, List.getElem?_cons_succ, List.getElem?_cons_zero]; rfl)
      · exact fun _ _ _ h => h
      · rfl
      · (intro w' hSw; (try dsimp only at hSw); go_simp; first | done | with_reducible rfl)
      try simp only [Act.put, List.setIfInBounds_toArray, List.set_cons_zero, List.set_cons_succ]
      refine wpAnyH_take (i := 36) (oi := ?_) (v := ?_) ?_ (by kernel_rfl) (by kernel_rfl) (by kernel_rfl) ?_ (Or.inl ⟨?_, ?_⟩) hHeld ?_
      rotate_left 2
      · (simp only [List.getElem?_toArray, List.getElem?_cons_succ, List.getElem?_cons_zero]; rfl)
      · exact fun _ _ _ h => h
      · rfl
      · (intro w' hSw; (try dsimp only at hSw); go_simp; first | done | with_reducible rfl)
      try simp only [Act.put, List.setIfInBounds_toArray, List.set_cons_zero, List.set_cons_succ]
      refine wpAnyH_take (i := 37) (oi := ?_) (v := ?_) ?_ (by kernel_rfl) (by kernel_rfl) (by kernel_rfl) ?_ (Or.inl ⟨?_, ?_⟩) hHeld ?_
      rotate_left 2
      · (simp only [List.getElem?_toArray, List.getElem?_cons_succ, List.getElem?_cons_zero]; rfl)
      · exact fun _ _ _ h => h
      · rfl
      · (intro w' hSw; (try dsimp only at hSw); go_simp; first | done | with_reducible rfl)
      try simp only [Act.put, List.setIfInBounds_toArray, List.set_cons_zero, List.set_cons_succ]
      refine wpAnyH_take (i := 38) (oi := ?_) (v := ?_) ?_ (by kernel_rfl) (by kernel_rfl) (by kernel_rfl) ?_ (Or.inl ⟨?_, ?_⟩) hHeld ?_
      rotate_left 2
      · (simp only [List.getElem?_toArray, List.getElem?_cons_succ, List.getElem?_cons_zero]; rfl)
      · exact fun _ _ _ h => h
      · rfl
      · (intro w' hSw; (try dsimp only at hSw); go_simp; first | done | with_reducible rfl)
      try simp only [Act.put, List.setIfInBounds_toArray, List.set_cons_zero, List.set_cons_succ]
      refine wpAnyH_take (i := 39) (oi := ?_) (v := ?_) ?_ (by kernel_rfl) (by kernel_rfl) (by kernel_rfl) ?_ (Or.inl ⟨?_, ?_⟩) hHeld ?_
      rotate_left 2
      · (simp only [List.getElem?_toArray, List.getElem?_cons_succ, List.getElem?_cons_zero]; rfl)
      · exact fun _ _ _ h => h
      · rfl
      · (intro w' hSw; (try dsimp only at hSw); go_simp; first | done | with_reducible rfl)
      try simp only [Act.put, List.setIfInBounds_toArray, List.set_cons_zero, List.set_cons_succ]
      refine wpAnyH_take (i := 40) (oi := ?_) (v := ?_) ?_ (by kernel_rfl) (by kernel_rfl) (by kernel_rfl) ?_ (Or.inl ⟨?_, ?_⟩) hHeld ?_
      rotate_left 2
      · (simp only [List.getElem?_toArray, List.getElem?_cons_succ, List.getElem?_cons_zero]; rfl)
      · exact fun _ _ _ h => h
      · rfl
      · (intro w' hSw; (try dsimp only at hSw); go_simp; first | done | with_reducible rfl)
      try simp only [Act.put, List.setIfInBounds_toArray, List.set_cons_zero, List.set_cons_succ]
      refine wpAnyH_take (i := 41) (oi := ?_) (v := ?_) ?_ (by kernel_rfl) (by kernel_rfl) (by kernel_rfl) ?_ (Or.inl ⟨?_, ?_⟩) hHeld ?_
      rotate_left 2
      · (simp only [List.getElem?_toArray, List.getElem?_cons_succ, List.getElem?_cons_zero]; rfl)
      · exact fun _ _ _ h => h
      · rfl
      · (intro w' hSw; (try dsimp only at hSw); go_simp; first | done | with_reducible rfl)
      try simp only [Act.put, List.setIfInBounds_toArray, List.set_cons_zero, List.set_cons_succ]
      refine wpAnyH_ready (rs := [30]) (by kernel_rfl) (by simp) ?_
      refine AllReadyH.cons rfl (fun K hK => ?_) AllReadyH.nil
      go_simp
      go_at_call 17
      refine (HC3.out w5 (Below.refl _ _)).mono ?_
      rintro e w6 ⟨rfl, hb6⟩
      obtain ⟨f0, f1, f2, f3⟩ := HC.out w6 (HJS.out.below.trans (hb6.mono HJS.out.below.size))
      have HB6 := Lib.hid hb6
      have q0 := HC2.out w6 hb6
      clear hb6 hHeld
      refine hK.out _ _ ⟨f0, f1, f2, f3, q0⟩ (fun hHeld => ?_)
      clear hK K
      try simp only [Act.put, List.setIfInBounds_toArray, List.set_cons_zero, List.set_cons_succ]
      refine wpAnyH_ready (rs := [42]) (by kernel_rfl) (by simp) ?_
      refine AllReadyH.cons rfl (fun K hK => ?_) AllReadyH.nil
      go_simp
      go_at_call 18
      refine (HC4.out w6 HB6.out).mono ?_
      rintro e w7 ⟨rfl, hb7⟩
      have HB7 := Lib.hid (HB6.out.trans (hb7.mono HB6.out.size))
      clear f0 f1 f2 f3 q0 hHeld
      obtain ⟨f0, f1, f2, f3⟩ := HC.out w7 (HJS.out.below.trans (HB7.out.mono HJS.out.below.size))
      have q0 := HC2.out w7 HB7.out
      clear hb7
      refine hK.out _ _ ⟨f0, f1, f2, f3, q0⟩ (fun hHeld => ?_)
      clear hK K
      try simp only [Act.put, List.setIfInBounds_toArray, List.set_cons_zero, List.set_cons_succ]
      refine wpAnyH_take (i := 43) (oi := ?_) (v := ?_) ?_ (by kernel_rfl) (by kernel_rfl) (by kernel_rfl) ?_ (Or.inl ⟨?_, ?_⟩) hHeld ?_
      rotate_left 2
      · (simp only [List.getElem?_toArray, List.getElem?_cons_succ, List.getElem?_cons_zero]; rfl)
      · exact fun _ _ _ h => h
      · rfl
      · (intro w' hSw; (try dsimp only at hSw); go_simp; first | done | with_reducible rfl)
      try simp only [Act.put, List.setIfInBounds_toArray, List.set_cons_zero, List.set_cons_succ]
      refine wpAnyH_take (i := 44) (oi := ?_) (v := ?_) ?_ (by kernel_rfl) (by kernel_rfl) (by kernel_rfl) ?_ (Or.inl ⟨?_, ?_⟩) hHeld ?_
      rotate_left 2
      · (simp only [List.getElem?_toArray, List.getElem?_cons_succ, List.getElem?_cons_zero]; rfl)
      · exact fun _ _ _ h => h
      · rfl
      · (intro w' hSw; (try dsimp only at hSw); go_simp; first | done | with_reducible rfl)
      try simp only [Act.put, List.setIfInBounds_toArray, List.set_cons_zero, List.set_cons_succ]
      refine wpAnyH_done (by kernel_rfl) ?_ _
      go_wp2_with fail
      go_roundw
      case rel => exact ⟨j + 1, by go_num, by omega, by omega, HJS.out.go HB7.out⟩
      case measure => simp [intOf]; omega
    · have hx : ¬ (j : Int) < (xs.length : Int) ∨ ((j : Int) < (xs.length : Int) ∧ ¬ (j : Int) < 500) := by omega
      obtain ⟨n, f, lv, L, lv2, pv, ML, PP, h1, h2, h3, h4, h5, h6⟩ := HJ.out
      have hlen : L.length = ML.length := by rw [← h3, List.length_map]
      have hml : (ML.length : Int) ≤ 500 := by omega
      obtain ⟨Am, cm, rfl⟩ := own_slice h2.l
      have HBL := Lib.hid h1.below
      have HM : Hid (∀ w', Below wL.heap.size wL w' → w'.cell? ⟨rb, 0, none⟩ = some (.slice Am ML.length cm)) := fun w' hb => by
        have := (h2.below hb).st
        rw [cell_of_row _ _ 0 _ _ _ this]; rfl
      have HIn : Hid (∀ (k : Nat) (hk : k < ML.length) w', Below wL.heap.size wL w' → Calls Try.prog 10 #[.pointer (some ⟨fb, 0, none⟩), .int .i64 k] w' fun e w'' => ∃ u, e = .returned (.tuple #[.int .i64 (ML[k]'hk).fr, .int .i64 (ML[k]'hk).to, u, .bool true]) ∧ Below w'.heap.size w' w'' ∧ ∀ o, (convert 26 9 u).run Try.prog (w''.alloc o) = .ok (.string ⟨(ML[k]'hk).b.toArray⟩) (w''.alloc o)) := fun k hk w' hb => by
        have hLk : (L[k]'(by omega)).1 = ML[k]'hk := by subst h3; simp
        have := fl_look (h1.go hb) k (by omega) (by omega)
        rw [hLk] at this
        refine this.mono ?_
        rintro e w'' ⟨u, rfl, hu, hf, hb2⟩
        exact ⟨u, rfl, hb2, fun o => conv_reads (ReadsB.own (own_below hu ((Below.refl _ _).alloc (Nat.le_refl _) o)))⟩
      have HOut : Hid (∀ (i : Int) w', (i < 0 ∨ (ML.length : Int) ≤ i) → Below wL.heap.size wL w' → Calls Try.prog 10 #[.pointer (some ⟨fb, 0, none⟩), .int .i64 i] w' fun e w'' => e = .returned (.tuple #[.int .i64 0, .int .i64 0, .slice none 0 0, .bool false]) ∧ w' = w'') := fun i w' hi hb => by
        refine (fl_look_out (h1.go hb) i (by omega)).mono ?_
        rintro e w'' ⟨rfl, rfl⟩
        exact ⟨rfl, rfl⟩
      have HRow : Hid (∀ (k : Nat) (hk : k < ML.length), ∃ g c, ∀ W, Below wL.heap.size wL W → W.cell? ⟨rb, 0, none⟩ = some (.slice (some ⟨g, 0, none⟩) ML.length c) ∧ W.cell? ⟨g, k * 3, none⟩ = some (.int .i64 (ML[k]'hk).fr) ∧ W.cell? ⟨g, k * 3 + 1, none⟩ = some (.int .i64 (ML[k]'hk).to) ∧ W.cell? ⟨g, k * 3 + 2, none⟩ = some (.string ⟨(ML[k]'hk).b.toArray⟩)) := fun k hk => by
        obtain ⟨g, c, e, _, _⟩ := h2.l.form (by omega)
        cases e
        exact ⟨g, _, fun W hb => ⟨HM.out W hb, ml_cells (h2.below hb).l k hk⟩⟩
      clear h1 h2 h3 h4 h5 h6 hlen hj HJ HV HO
      have hS0 : Below wL.heap.size wL wL := Below.refl _ _
      rcases hx with c1 | ⟨c1, c2⟩
      all_goals
        go_wp2_with fail
        go_loopw [6] (fun i wr => ∃ t : Nat, i = .int .i64 ((t : Int) - 1) ∧ t ≤ ML.length + 2 ∧ Hid (Below wL.heap.size wL wr)) (fun i _ => ML.length + 2 - (intOf i + 1).toNat)
        case atStart => exact ⟨0, rfl, by omega, hS0⟩
        case round =>
          obtain ⟨t, rfl, ht, HB⟩ := hrel
          obtain ⟨wR, rfl⟩ : ∃ wo : World, wo = wr := ⟨_, rfl⟩
          have hba : ∀ W, Below wR.heap.size wR W → Below wL.heap.size wL W := fun W hb => HB.out.trans (hb.mono HB.out.size)
          have HBA := Lib.hid hba
          have hal : ∀ (W : World) o, Below W.heap.size W (W.alloc o) := fun W o => (Below.refl _ _).alloc (Nat.le_refl _) o
          have HAL := Lib.hid hal
          clear hba hal hS0
          have m0 := HM.out wR HB.out
          by_cases hE : t = ML.length + 2
          · obtain ⟨iv, hiv⟩ : ∃ iv : Int, (t : Int) - 1 = iv := ⟨_, rfl⟩
            have hc : ¬ iv ≤ (ML.length : Int) := by omega
            rw [hiv]
            go_wp2_with (go_at_call 13; refine (awake_any _).mono ?_; rintro e w9 ⟨rfl, hb9⟩)
            go_ret
            exact ⟨rfl, HBL.out.trans ((HBA.out _ hb9).mono HBL.out.size)⟩
          · by_cases hin : 1 ≤ t ∧ t ≤ ML.length
            · obtain ⟨k, rfl⟩ : ∃ k, t = k + 1 := ⟨t - 1, by omega⟩
              have hk : k < ML.length := by omega
              have e1 : ((k + 1 : Nat) : Int) - 1 = (k : Int) := by omega
              rw [e1]
              have d1 : (k : Int) ≤ (ML.length : Int) := by omega
              have d2 : (0 : Int) ≤ (k : Int) := by omega
              have d3 : (k : Int) < (ML.length : Int) := by omega
              have HLk := Lib.hid (HIn.out k hk wR HB.out)
              obtain ⟨g, c, hrow⟩ := HRow.out k hk
              have HR := Lib.hid hrow
              clear hrow
              generalize ML[k]'hk = mg at *
              obtain ⟨fr, to, bs⟩ := mg
              simp only [] at HLk HR
              have hE := fun W => eq_msg fr to bs W
              clear HIn HOut HRow e1
              go_wp2_with (go_at_call 10; refine HLk.out.mono ?_; rintro e w2 ⟨u, rfl, hb2, hcv⟩; have r0 := fun o => (HR.out (w2.alloc o) (HBA.out _ (hb2.trans ((HAL.out w2 o).mono hb2.size)))).1; have r1 := fun o => (HR.out (w2.alloc o) (HBA.out _ (hb2.trans ((HAL.out w2 o).mono hb2.size)))).2.1; have r2 := fun o => (HR.out (w2.alloc o) (HBA.out _ (hb2.trans ((HAL.out w2 o).mono hb2.size)))).2.2.1; have r3 := fun o => (HR.out (w2.alloc o) (HBA.out _ (hb2.trans ((HAL.out w2 o).mono hb2.size)))).2.2.2; have HB2 := Lib.hid hb2; clear hb2)
              go_roundw
              case rel => exact ⟨k + 2, by go_num, by omega, HBA.out _ (HB2.out.trans ((HAL.out w2 _).mono HB2.out.size))⟩
              case measure => simp [intOf]; omega
            · have hio : (t : Int) - 1 < 0 ∨ (ML.length : Int) ≤ (t : Int) - 1 := by omega
              have hcase : (0 ≤ (t : Int) - 1) = False ∨ ((0 ≤ (t : Int) - 1) = True ∧ ((t : Int) - 1 < (ML.length : Int)) = False) := by
                simp only [eq_iff_iff, iff_true, iff_false]; omega
              have d1 : (t : Int) - 1 ≤ (ML.length : Int) := by omega
              have HLk := Lib.hid (HOut.out _ wR hio HB.out)
              have hwr : IntKind.i64.wrap ((t : Int) - 1 + 1) = ((t + 1 : Nat) : Int) - 1 := by rw [IntKind.wrap_i64]; omega
              have HT : Hid (t ≤ ML.length + 1) := by show _ ≤ _; omega
              have HIV : Hid ((intOf (.int .i64 ((t : Int) - 1)) + 1).toNat = t) := by show _ = _; simp [intOf]
              have hE := fun W => eq_msg 0 0 [] W
              have hcv := conv_none
              have r0 := fun o => HM.out (wR.alloc o) (HBA.out _ (HAL.out wR o))
              clear HIn HOut HRow hio hin hE ht
              generalize (t : Int) - 1 = iv at *
              rcases hcase with k1 | ⟨k1, k2⟩
              all_goals
                have hE := fun W => eq_msg 0 0 [] W
                go_wp2_with (go_at_call 10; refine HLk.out.mono ?_; rintro e w2 ⟨rfl, rfl⟩)
                go_roundw
                case rel => exact ⟨t + 1, by go_num, by have := HT.out; omega, HBA.out _ (HAL.out wR _)⟩
                case measure => have := HT.out; have := HIV.out; simp [intOf] at *; omega
end Go.Proofs.Ytlieepbmmfdeoaa.flightActs
