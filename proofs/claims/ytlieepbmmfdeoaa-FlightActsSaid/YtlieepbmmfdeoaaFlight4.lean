/- The walks of a flight's New, pair, Parted, Part, Heal, Deliver. -/
import Derived.Test.YtlieepbmmfdeoaaFlight3
namespace Go.Proofs.Ytlieepbmmfdeoaa
open Go.RowKit Own
open Go.Maps (Keyed)

theorem laidOut : laidOutB Try.prog = true := by kernel_rfl
theorem rowPair : (59 : TypeId) < Try.prog.types.size := of_decide_eq_true (by kernel_rfl)
theorem widePair : (match Try.prog.underlying 59 with | some (.array _ _) | some (.struct _) => true | _ => false) = true := by kernel_rfl
theorem keyedPair : Keyed Try.prog 59 := Keyed.of_law (deep_law_laid laidOut (m := 2) (by omega) rowPair (by kernel_rfl) widePair)
def K2 (a b : Int) : Value := .agg #[.int .i64 a, .int .i64 b]
theorem K2_inj {a b c d : Int} : K2 a b = K2 c d ↔ a = c ∧ b = d := by simp [K2]
theorem keyPair {a b : Int} (ha : (Lit.int .i64 a).wf = true) (hb : (Lit.int .i64 b).wf = true) : ∃ kl, keyOf Try.prog 59 (K2 a b) = some kl := by
  have h1 : Try.prog.keyType 59 = true := by kernel_rfl
  have h2 : Try.prog.cellsOf 59 = 2 := by kernel_rfl
  have h3 : Try.prog.cellsOf 3 = 1 := by kernel_rfl
  obtain ⟨n, hn⟩ : ∃ n, Try.prog.types.size = n + 1 := ⟨Try.prog.types.size - 1, (Nat.succ_pred_eq_of_pos (Nat.lt_of_le_of_lt (Nat.zero_le _) rowPair)).symm⟩
  simp only [keyOf, Try.underlying59, h1, Value.formed, h2, K2, Value.cells, hn]
  have e : Try.prog.keyLits (n + 1 + 1) 59 [.int .i64 a, .int .i64 b] = some [.int .i64 a, .int .i64 b] := by
    simp [Program.keyLits, Try.underlying59, Try.underlying3, h2, h3, List.range_succ, ha, hb]
  simp [e]

theorem pair_any (a b : Int) (w : World) :
    Calls Try.prog 26 #[.int .i64 a, .int .i64 b] w fun e w' => e = .returned (K2 (min a b) (max a b)) ∧ Below w.heap.size w w' := by
  go_enter Try.func26, Try.ntmps26
  go_wp2_with fail
  all_goals
    have n0 : ∀ x y, (w.alloc (.cells #[.int .i64 x, .int .i64 y] 59)).cell? ⟨w.heap.size, 0, none⟩ = some (.int .i64 x) := fun x y => by rw [cell_of_row _ _ 0 _ _ (0, 0) (heap_alloc_new w _)]; rfl
    have n1 : ∀ x y, (w.alloc (.cells #[.int .i64 x, .int .i64 y] 59)).cell? ⟨w.heap.size, 1, none⟩ = some (.int .i64 y) := fun x y => by rw [cell_of_row _ _ 1 _ _ (0, 0) (heap_alloc_new w _)]; rfl
    have hb : ∀ o, Below w.heap.size w (w.alloc o) := fun o => (Below.refl _ _).alloc (Nat.le_refl _) _
  · rw [show min a b = b by omega, show max a b = a by omega]
    refine bodyPost_ret (v := K2 b a) (by simp [results, Try.results26, go_sem, n0, n1, K2]) rfl ⟨rfl, hb _⟩
  · rw [show min a b = a by omega, show max a b = b by omega]
    refine bodyPost_ret (v := K2 a b) (by simp [results, Try.results26, go_sem, n0, n1, K2]) rfl ⟨rfl, hb _⟩
  · rw [show min a b = a by omega, show max a b = a by omega]
    refine bodyPost_ret (v := K2 a a) (by simp [results, Try.results26, go_sem, n0, n1, K2]) rfl ⟨rfl, hb _⟩

/-- who is parted -/
def partedB (f : Value → Option Value) (a b : Int) : Bool := (f (K2 (min a b) (max a b))).isSome
def AllTrue (f : Value → Option Value) : Prop := ∀ k v, f k = some v → v = .bool true
theorem zero_bool (w : World) : (zeroValue 4).run Try.prog w = .ok (.bool false) w := by kernel_rfl
theorem wf_min {a b : Int} (ha : (Lit.int .i64 a).wf = true) (hb : (Lit.int .i64 b).wf = true) : (Lit.int .i64 (min a b)).wf = true := by
  rcases Int.le_total a b with h | h
  · rw [Int.min_eq_left h]; exact ha
  · rw [Int.min_eq_right h]; exact hb
theorem wf_max {a b : Int} (ha : (Lit.int .i64 a).wf = true) (hb : (Lit.int .i64 b).wf = true) : (Lit.int .i64 (max a b)).wf = true := by
  rcases Int.le_total a b with h | h
  · rw [Int.max_eq_right h]; exact hb
  · rw [Int.max_eq_left h]; exact ha
theorem look_pair {mb n : Nat} {f : Value → Option Value} {w : World} (h : MapIs Try.prog 59 mb n f w) (ht : AllTrue f) {a b : Int} (ha : (Lit.int .i64 a).wf = true) (hb : (Lit.int .i64 b).wf = true) :
    (Instr.lookup 48 (.map (some mb)) (K2 (min a b) (max a b)) false).run Try.prog w = .ok (.bool (partedB f a b)) w := by
  obtain ⟨kl, hk⟩ := keyPair (wf_min ha hb) (wf_max ha hb)
  have := h.look keyedPair Try.underlying48 (zero_bool w) hk
  rw [this]
  unfold partedB
  cases hv : f (K2 (min a b) (max a b)) with
  | none => rfl
  | some v => rw [ht _ _ hv]; rfl

theorem parted_any (fb mb n : Nat) (lv : Value) (f : Value → Option Value) (a b : Int) (ha : (Lit.int .i64 a).wf = true) (hb : (Lit.int .i64 b).wf = true) (w : World) (hst : w.heap[fb]? = some (.cells #[lv, .map (some mb)] 50 (0, 0))) (hm : MapIs Try.prog 59 mb n f w) (hf : AllTrue f) :
    Calls Try.prog 17 #[.pointer (some ⟨fb, 0, none⟩), .int .i64 a, .int .i64 b] w fun e w' => e = .returned (.bool (partedB f a b)) ∧ Below w.heap.size w w' := by
  have hc1 : w.cell? ⟨fb, 1, none⟩ = some (.map (some mb)) := by rw [cell_of_row w fb 1 _ _ _ hst]; rfl
  have hfb : fb < w.heap.size := (Array.getElem?_eq_some_iff.1 hst).1
  have HI := Lib.hid (fun w' (h : w'.heap[fb]? = some (.cells #[lv, .map (some mb)] 50 (0, 0))) => is_any fb mb lv w' h)
  have HS : Hid (∀ w', Below w.heap.size w w' → w'.heap[fb]? = some (.cells #[lv, .map (some mb)] 50 (0, 0))) := fun w' h => (h.block fb hfb).trans hst
  have HM : Hid (∀ w', Below w.heap.size w w' → (Instr.lookup 48 (.map (some mb)) (K2 (min a b) (max a b)) false).run Try.prog w' = .ok (.bool (partedB f a b)) w') := fun w' h => look_pair (hm.same (h.block mb hm.lt)) hf ha hb
  have hks0 : w.drew.cell? ⟨fb, 1, none⟩ = some (.map (some mb)) ∧ Below w.heap.size w w.drew ∧ (Instr.lookup 48 (.map (some mb)) (K2 (min a b) (max a b)) false).run Try.prog w.drew = .ok (.bool (partedB f a b)) w.drew :=
    ⟨hc1, Below.drew (Below.refl _ _), HM.out w.drew (Below.drew (Below.refl _ _))⟩
  have HP := Lib.hid (fun w => pair_any a b w)
  have HK : Hid (∀ W w2, Below w.heap.size w W → Below W.heap.size W w2 → w2.cell? ⟨fb, 1, none⟩ = some (.map (some mb)) ∧ Below w.heap.size w w2 ∧ (Instr.lookup 48 (.map (some mb)) (K2 (min a b) (max a b)) false).run Try.prog w2 = .ok (.bool (partedB f a b)) w2) := fun W w2 h1 h2 => by
    have h3 := h1.trans (h2.mono h1.size)
    exact ⟨by rw [cell_of_row w2 fb 1 _ _ _ (HS.out w2 h3)]; rfl, h3, HM.out w2 h3⟩
  clear hm hf ha hb
  go_enter Try.func17, Try.ntmps17
  go_wp2_with fail
  go_region_held3 (fun w' => w'.cell? ⟨fb, 1, none⟩ = some (.map (some mb)) ∧ Below w.heap.size w w' ∧ (Instr.lookup 48 (.map (some mb)) (K2 (min a b) (max a b)) false).run Try.prog w' = .ok (.bool (partedB f a b)) w') (first | exact hks0 | go_keep | exact hks)
    (first | (go_at_call 23; refine (HI.out _ ?_).mono ?_; (exact hst); rintro e w2 ⟨rfl, rfl⟩; have hks := hks0) | (go_at_call 26; refine (HP.out _).mono ?_; rintro e w2 ⟨rfl, hb2⟩; have hks := HK.out _ w2 hks0.2.1 hb2))
  go_wp2_with fail
  go_ret
  exact ⟨rfl, hks.2.1⟩

def PartPost (mb n : Nat) (f : Value → Option Value) (a b : Int) (w : World) (e : Ending) (w' : World) : Prop :=
  e = .returned (.tuple #[]) ∧ MapIs Try.prog 59 mb (n + 1) (putKey f (K2 (min a b) (max a b)) (.bool true)) w' ∧ Chg [mb] w w'
theorem part_any (fb mb n : Nat) (lv : Value) (f : Value → Option Value) (a b : Int) (hab : a ≠ b) (ha : (Lit.int .i64 a).wf = true) (hb : (Lit.int .i64 b).wf = true) (w : World) (hst : w.heap[fb]? = some (.cells #[lv, .map (some mb)] 50 (0, 0))) (hm : MapIs Try.prog 59 mb n f w) :
    Calls Try.prog 19 #[.pointer (some ⟨fb, 0, none⟩), .int .i64 a, .int .i64 b] w (PartPost mb n f a b w) := by
  have hc1 : w.cell? ⟨fb, 1, none⟩ = some (.map (some mb)) := by rw [cell_of_row w fb 1 _ _ _ hst]; rfl
  have hfb : fb < w.heap.size := (Array.getElem?_eq_some_iff.1 hst).1
  have HI := Lib.hid (is_any fb mb lv w hst)
  have HC : Hid (∀ w', Below w.heap.size w w' → w'.cell? ⟨fb, 1, none⟩ = some (.map (some mb))) := fun w' h => by rw [cell_of_row w' fb 1 _ _ _ ((h.block fb hfb).trans hst)]; rfl
  have HM : Hid (∀ w', Below w.heap.size w w' → ∃ w3, (Instr.mapUpdate 48 (.map (some mb)) (K2 (min a b) (max a b)) (.bool true)).run Try.prog w' = .ok () w3 ∧ MapIs Try.prog 59 mb (n + 1) (putKey f (K2 (min a b) (max a b)) (.bool true)) w3 ∧ Chg [mb] w w3) := fun w' h => by
    obtain ⟨kl, hk⟩ := keyPair (wf_min ha hb) (wf_max ha hb)
    obtain ⟨w3, h1, h2, h3⟩ := (hm.same (h.block mb hm.lt)).store keyedPair Try.underlying48 (val := .bool true) hk
    exact ⟨w3, h1, h2, (Chg.of_below h).trans h3 (fun x hx _ => hx)⟩
  have HP := Lib.hid (fun w => pair_any a b w)
  have hne : (a != b) = true := bne_iff_ne.2 hab
  have hbd : Below w.heap.size w w.drew := Below.drew (Below.refl _ _)
  have HB : Hid (∀ w2, Below w.drew.heap.size w.drew w2 → Below w.heap.size w w2) := fun w2 h2 => hbd.trans h2
  clear hm ha hb hbd hab hst
  go_enter Try.func19, Try.ntmps19
  go_wp2_with (go_at_call 23; refine HI.out.mono ?_; rintro e w2 ⟨rfl, rfl⟩)
  go_region_law (first | (go_simp; go_at_call 26; refine (HP.out _).mono ?_; rintro e w2 ⟨rfl, hb2⟩; have hcc := HC.out w2 (HB.out w2 hb2); obtain ⟨w3, hr3, hm3, hc3⟩ := HM.out w2 (HB.out w2 hb2)))
  all_goals
    go_wp2_with fail
    go_end0
    exact ⟨rfl, hm3, hc3⟩
theorem part_same (fb mb : Nat) (lv : Value) (a : Int) (w : World) (hst : w.heap[fb]? = some (.cells #[lv, .map (some mb)] 50 (0, 0))) :
    Calls Try.prog 19 #[.pointer (some ⟨fb, 0, none⟩), .int .i64 a, .int .i64 a] w fun e w' => e = .returned (.tuple #[]) ∧ w = w' := by
  have HI := Lib.hid (is_any fb mb lv w hst)
  clear hst
  go_enter Try.func19, Try.ntmps19
  go_wp2_with (go_at_call 23; refine HI.out.mono ?_; rintro e w2 ⟨rfl, rfl⟩)
  go_end0
  exact ⟨rfl, rfl⟩
def HealPost (mb : Nat) (w : World) (e : Ending) (w' : World) : Prop :=
  e = .returned (.tuple #[]) ∧ MapIs Try.prog 59 mb 0 noKeys w' ∧ Chg [mb] w w'
theorem heal_any (fb mb n : Nat) (lv : Value) (f : Value → Option Value) (w : World) (hst : w.heap[fb]? = some (.cells #[lv, .map (some mb)] 50 (0, 0))) (hm : MapIs Try.prog 59 mb n f w) :
    Calls Try.prog 20 #[.pointer (some ⟨fb, 0, none⟩)] w (HealPost mb w) := by
  have hc1 : w.cell? ⟨fb, 1, none⟩ = some (.map (some mb)) := by rw [cell_of_row w fb 1 _ _ _ hst]; rfl
  have HI := Lib.hid (is_any fb mb lv w hst)
  have HM : Hid (∀ ty, ∃ w', (Builtin.clear_ #[48] ty #[.map (some mb)]).run Try.prog w = .ok (.tuple #[]) w' ∧ MapIs Try.prog 59 mb 0 noKeys w' ∧ Chg [mb] w w') := fun ty => run_clear_map hm Try.underlying48
  obtain ⟨w1, hr, hm1, hc⟩ := HM.out 0
  have hr' : ∀ ty, (Builtin.clear_ #[48] ty #[.map (some mb)]).run Try.prog w = .ok (.tuple #[]) w1 := fun ty => hr
  clear hst hm hr
  go_enter Try.func20, Try.ntmps20
  go_wp2_with (go_at_call 23; refine HI.out.mono ?_; rintro e w2 ⟨rfl, rfl⟩)
  go_end0
  exact ⟨rfl, hm1, hc⟩
def NewPost (w : World) (e : Ending) (w' : World) : Prop :=
  ∃ fb mb, e = .returned (.pointer (some ⟨fb, 0, none⟩)) ∧ FlightAt w.heap.size fb mb (.slice none 0 0) [] w' ∧ MapIs Try.prog 59 mb 0 noKeys w' ∧ w.heap.size ≤ mb ∧ Below w.heap.size w w'
theorem new_any (w : World) : Calls Try.prog 8 #[] w (NewPost w) := by
  have hmm := @run_makeMap Try.prog
  go_enter Try.func8, Try.ntmps8
  go_wp2_with fail
  go_ret
  have h1 : Below w.heap.size w (w.alloc (.map #[] 0)) := (Below.refl _ _).alloc (Nat.le_refl _) _
  have hz : (w.alloc (.map #[] 0)).heap.size = w.heap.size + 1 := by simp
  refine ⟨w.heap.size + 1, w.heap.size, rfl, ⟨by omega, ?_, ⟨rfl, .inl ⟨rfl, rfl⟩⟩, by simp⟩, ?_, Nat.le_refl _, h1.alloc (by omega) _⟩
  · rw [← hz]; exact heap_alloc_new _ _
  · exact (MapIs.made w).same (by rw [(MapKept.heap_alloc _ _).2 _ (by omega)])
end Go.Proofs.Ytlieepbmmfdeoaa
