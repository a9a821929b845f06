/- The walks of the reference's Fold and of Same. -/
import Derived.Test.YthppflfpghhnhaaDoorFoldW
import Derived.Laws.IdiomStrings
namespace Go.Proofs.YthppflfpghhnhaaDoor
open Go.RowKit Utf

/-- bytes of new memory that may be turned -/
structure Row (g : Nat) (l : List UInt8) (w : World) : Prop where
  at_ : ∀ j (hj : j < l.length), w.cell? ⟨g, j, none⟩ = some (.int .u8 ((l[j]'hj).toNat : Int))
  free : ∀ j, j < l.length → w.frozen? ⟨g, j, none⟩ = false
theorem Row.set {g j : Nat} {l : List UInt8} {w : World} (h : Row g l w) (hj : j < l.length) (y : UInt8) : Row g (l.set j y) (w.setCell ⟨g, j, none⟩ (.int .u8 (y.toNat : Int))) := by
  refine ⟨fun i hi => ?_, fun i hi => ?_⟩
  · have hi' : i < l.length := by rw [List.length_set] at hi; exact hi
    by_cases hij : i = j
    · subst hij
      rw [World.cell?_setCell_same _ _ _ (h.at_ i hi')]
      simp
    · rw [World.cell?_setCell_other _ _ _ _ (fun e => hij (by cases e; rfl)), h.at_ i hi']
      rw [List.getElem_set_ne (Ne.symm hij)]
  · rw [List.length_set] at hi
    rw [World.frozen?_setCell]; exact h.free i hi
theorem Row.conv {g c : Nat} {l : List UInt8} {w : World} (h : Row g l w) : (convert 34 9 (.slice (some ⟨g, 0, none⟩) l.length c)).run Tryd.prog w = .ok (.string ⟨l.toArray⟩) w :=
  run_convert_bytes_back w 34 9 5 ⟨g, 0, none⟩ c l Tryd.underlying34 Tryd.underlying5 Tryd.underlying9 (fun j hj => by rw [Addr.add_lit, Nat.zero_add]; exact h.at_ j hj)
/-- '[]byte(s)' -/
theorem conv_row (s : ByteArray) (w : World) : ∃ c w', (convert 9 34 (.string s)).run Tryd.prog w = .ok (.slice (some ⟨w.heap.size, 0, none⟩) s.size c) w' ∧ Row w.heap.size s.data.toList w' ∧ Below w.heap.size w w' := by
  have hc : s.size ≤ grownCap w s.size 0 5 := grownCap_ge _ _ _ _
  have hr := run_bytes_of_string (P := Tryd.prog) w 9 34 5 s Tryd.underlying9 Tryd.underlying34 Tryd.underlying5
  have hlen : s.data.toList.length = s.size := by show _ = s.data.size; simp
  have hsz2 : (bytesRow s (grownCap w s.size 0 5)).size = grownCap w s.size 0 5 := by
    simp only [bytesRow, Array.size_append, Array.size_map, Array.size_replicate]
    show s.data.size + _ = _
    have : s.data.size = s.size := rfl
    omega
  have hdr : Below w.heap.size w w.drew := ⟨rfl, rfl, rfl, Nat.le_refl _, fun _ _ => rfl⟩
  obtain ⟨O, hO⟩ : ∃ O, O = Obj.cells (bytesRow s (grownCap w s.size 0 5)) 5 ((bytesRow s (grownCap w s.size 0 5)).size, (bytesRow s (grownCap w s.size 0 5)).size + 1) := ⟨_, rfl⟩
  rw [← hO] at hr
  have hh : (w.drew.alloc O).heap[w.heap.size]? = some (.cells (bytesRow s (grownCap w s.size 0 5)) 5 (grownCap w s.size 0 5, grownCap w s.size 0 5 + 1)) := by
    rw [hO, hsz2]; exact heap_alloc_new w.drew _
  refine ⟨_, _, hr, ⟨fun j hj => ?_, fun j hj => ?_⟩, hdr.alloc (Nat.le_refl _) _⟩
  · rw [hlen] at hj
    rw [cell_of_row (w.drew.alloc O) w.heap.size j _ _ _ hh, bytesRow_at _ _ j hj]
    simp
  · rw [hlen] at hj
    simp only [World.frozen?, hh]
    simp
    omega

def mixL (l : List UInt8) (j : Nat) : List UInt8 := foldL (l.take j) ++ l.drop j
theorem mixL_len (l : List UInt8) (j : Nat) (hj : j ≤ l.length) : (mixL l j).length = l.length := by
  simp only [mixL, foldL, List.length_append, List.length_map, List.length_take, List.length_drop]; omega
theorem mixL_at (l : List UInt8) (j : Nat) (hj : j < l.length) : (mixL l j)[j]? = some (l[j]'hj) := by
  unfold mixL foldL
  rw [List.getElem?_append_right (by simp; omega)]
  simp only [List.length_map, List.length_take, List.getElem?_drop]
  rw [show j + (j - min j l.length) = j by omega, List.getElem?_eq_getElem hj]
theorem mixL_succ (l : List UInt8) (j : Nat) (hj : j < l.length) : mixL l (j + 1) = (mixL l j).set j (foldB (l[j]'hj)) := by
  unfold mixL foldL
  have h1 : ((l.take j).map foldB).length = j := by simp; omega
  rw [List.set_append_right _ _ (by omega), h1, Nat.sub_self, List.drop_eq_getElem_cons hj, List.set_cons_zero, List.take_succ_eq_append_getElem hj, List.map_append, List.append_assoc]
  rfl

theorem runes_none (s : ByteArray) (w : World) (hs : s.size ≤ 1048576) (hl : runes s = none) :
    Calls Tryd.prog 12 #[.string s] w fun e w' => e = .returned (.tuple #[.slice none 0 0, .bool false]) ∧ Below w.heap.size w w' := by
  refine (runes_any s w hs).mono ?_
  rintro e w' ⟨hb, ⟨_, rfl⟩ | ⟨l, v, h, _⟩⟩
  · exact ⟨rfl, hb⟩
  · rw [hl] at h; cases h
theorem runes_some (s : ByteArray) (w : World) (hs : s.size ≤ 1048576) {l : List Nat} (hl : runes s = some l) :
    Calls Tryd.prog 12 #[.string s] w fun e w' => (∃ A n c, e = .returned (.tuple #[.slice A n c, .bool true])) ∧ Below w.heap.size w w' := by
  refine (runes_any s w hs).mono ?_
  rintro e w' ⟨hb, ⟨h, _⟩ | ⟨l', v, h, rfl, ho⟩⟩
  · rw [hl] at h; cases h
  · obtain ⟨A, c, rfl⟩ := Own.own_slice ho
    exact ⟨⟨_, _, _, rfl⟩, hb⟩

set_option maxHeartbeats 1000000 in
theorem rfold_any (s : ByteArray) (w : World) (hs : s.size ≤ 1048576) :
    Calls Tryd.prog 5 #[.string s] w fun e w' => e = .returned (.tuple #[.string (foldV s), .int .i64 (foldE s)]) ∧ Below w.heap.size w w' := by
  unfold foldV foldE
  cases hl : runes s with
  | none =>
    have hR := runes_none s w hs hl
    clear hl hs
    go_enter Tryd.func5, Tryd.ntmps5
    go_wp2_with (go_at_call 12; refine hR.mono ?_; rintro e w1 ⟨rfl, hb1⟩)
    go_ret2
    exact ⟨rfl, hb1⟩
  | some l =>
    have hR := runes_some s w hs hl
    have hn : (s.size : Int) ≤ 1048576 := by omega
    have hlen : s.data.toList.length = s.size := by show _ = s.data.size; simp
    clear hl hs
    go_enter Tryd.func5, Tryd.ntmps5
    go_wp2_with (go_at_call 12; refine hR.mono ?_; rintro e w1 ⟨⟨A, n, c, rfl⟩, hb1⟩; obtain ⟨c2, w2, hcv, hrow, hb2⟩ := conv_row s w1; have HB := Lib.hid (hb1.trans (hb2.mono hb1.size)); have HG := Lib.hid hb1.size; have HRow := Lib.hid hrow; clear hb1 hb2 hrow)
    generalize w1.heap.size = g at *
    generalize hL : s.data.toList = L at *
    go_loopw [7] (fun i wr => ∃ j : Nat, i = .int .i64 j ∧ j ≤ s.size ∧ Hid (Row g (mixL L j) wr ∧ Below w.heap.size w wr)) (fun i _ => s.size - (intOf i).toNat)
    case atStart => exact ⟨0, rfl, Nat.zero_le _, HRow.out, HB.out⟩
    case round =>
      obtain ⟨j, rfl, hjk, HJ⟩ := hrel
      obtain ⟨wL, rfl⟩ : ∃ wo : World, wo = wr := ⟨_, rfl⟩
      by_cases hj : j < s.size
      · have hj1 : (j : Int) < (s.size : Int) := by omega
        have hjL : j < L.length := by omega
        have hat := mixL_at L j hjL
        have hml := mixL_len L j (by omega)
        have hsu := mixL_succ L j hjL
        have hjm : j < (mixL L j).length := by omega
        have e0 := HJ.out.1.at_ j hjm
        have f0 := HJ.out.1.free j hjm
        have hx : (mixL L j)[j]'hjm = L[j]'hjL := by
          have := List.getElem?_eq_getElem hjm
          rw [hat] at this
          exact (Option.some.inj this).symm
        rw [hx] at e0
        have hset := HJ.out.1.set hjm (foldB (L[j]'hjL))
        rw [← hsu, foldB_nat] at hset
        have hkeep : ∀ y, L[j]'hjL = y → foldB y = y → mixL L (j + 1) = mixL L j := fun y h1 h2 => by
          rw [hsu, h1, h2, ← h1, ← hx]
          exact List.set_getElem_self hjm
        generalize L[j]'hjL = x at *
        have hxl := x.toNat_lt
        have HK : Hid (foldB x = x → mixL L (j + 1) = mixL L j) := hkeep x rfl
        have HSet := Lib.hid hset
        clear hat hml hsu hx hset hkeep
        have hcase : ((65 : Int) ≤ (x.toNat : Int) ∧ (x.toNat : Int) ≤ 90) ∨ ((65 : Int) ≤ (x.toNat : Int) ∧ ¬ (x.toNat : Int) ≤ 90) ∨ ¬ (65 : Int) ≤ (x.toNat : Int) := by omega
        rcases hcase with ⟨k1, k2⟩ | ⟨k1, k2⟩ | k1
        · have hwr : IntKind.u8.wrap ((x.toNat : Int) + 32) = (x.toNat : Int) + 32 := by rw [IntKind.wrap_u8]; omega
          have hfn : (foldN x.toNat : Int) = (x.toNat : Int) + 32 := by unfold foldN; rw [if_pos (by omega)]; omega
          rw [hfn] at HSet
          clear hfn
          go_wp2_with fail
          go_roundw
          case rel => exact ⟨j + 1, by go_num, by omega, HSet.out, (HJ.out.2).setCell HG.out _⟩
          case measure => simp [intOf]; omega
        · have hfb : foldB x = x := by unfold foldB; rw [if_neg (by omega)]
          have hmm := HK.out hfb
          have HM := Lib.hid hmm
          clear hmm hfb
          go_wp2_with fail
          go_roundw
          case rel => exact ⟨j + 1, by go_num, by omega, by rw [HM.out]; exact HJ.out⟩
          case measure => simp [intOf]; omega
        · have hfb : foldB x = x := by unfold foldB; rw [if_neg (by omega)]
          have hmm := HK.out hfb
          have HM := Lib.hid hmm
          clear hmm hfb
          go_wp2_with fail
          go_roundw
          case rel => exact ⟨j + 1, by go_num, by omega, by rw [HM.out]; exact HJ.out⟩
          case measure => simp [intOf]; omega
      · obtain rfl : j = s.size := by omega
        have hcv2 := HJ.out.1.conv (c := c2)
        rw [mixL_len L _ (by omega), hlen] at hcv2
        have hfin : mixL L s.size = foldL L := by
          unfold mixL
          rw [List.take_of_length_le (by omega), List.drop_eq_nil_of_le (by omega), List.append_nil]
        rw [hfin, ← hL] at hcv2
        have hcv3 : (convert 34 9 (.slice (some ⟨g, 0, none⟩) s.size c2)).run Tryd.prog wL = .ok (.string (foldS s)) wL := hcv2
        clear hcv2 hfin
        go_wp2_with fail
        go_ret2
        exact ⟨rfl, HJ.out.2⟩

theorem same_any (a b : ByteArray) (w : World) (ha : a.size ≤ 1048576) (hb : b.size ≤ 1048576) (hT : Tabs w) :
    Calls Tryd.prog 6 #[.string a, .string b] w fun e w' => e = .returned (.bool ((foldE a == 0) && ((foldE b == 0) && ((foldV a).toList == (foldV b).toList)))) ∧ Below w.heap.size w w' := by
  have h1 := fold_any a w ha hT
  have H2 : Hid (∀ w', Below w.heap.size w w' → Calls Tryd.prog 4 #[.string b] w' fun e w'' => e = .returned (.tuple #[.string (foldV b), .int .i64 (foldE b)]) ∧ Below w'.heap.size w' w'') := fun w' h => fold_any b w' hb (hT.below h)
  clear ha hb hT
  have hcase : ((foldE a == 0) = true ∧ (foldE b == 0) = true) ∨ ((foldE a == 0) = true ∧ (foldE b == 0) = false) ∨ (foldE a == 0) = false := by
    cases (foldE a == 0) <;> cases (foldE b == 0) <;> simp
  generalize foldV a = va at *
  generalize foldV b = vb at *
  generalize foldE a = ea at *
  generalize foldE b = eb at *
  rcases hcase with ⟨k1, k2⟩ | ⟨k1, k2⟩ | k1
  all_goals
    go_enter Tryd.func6, Tryd.ntmps6
    go_wp2_with (first
      | (go_at_call 4; (with_reducible refine h1.mono ?_); rintro e w1 ⟨rfl, hb1⟩)
      | (go_at_call 4; (with_reducible refine (H2.out _ hb1).mono ?_); rintro e w2 ⟨rfl, hb2⟩))
    go_ret
    exact ⟨by simp [*], hb1.trans (hb2.mono hb1.size)⟩
end Go.Proofs.YthppflfpghhnhaaDoor
