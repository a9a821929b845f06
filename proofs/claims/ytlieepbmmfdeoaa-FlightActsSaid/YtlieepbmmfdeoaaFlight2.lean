/- The walks of a flight's Look, Drop, Deliver, Twice, Parted. -/
import Derived.Test.YtlieepbmmfdeoaaFlight
namespace Go.Proofs.Ytlieepbmmfdeoaa
open Go.RowKit Own

theorem cells_at {L : List (Msg × Value)} {k : Nat} (hk : k < L.length) (j : Nat) (hj : j < 3) :
    (cellsOf L)[k * 3 + j]? = [Value.int .i64 (L[k]'hk).1.fr, .int .i64 (L[k]'hk).1.to, (L[k]'hk).2][j]? := by
  induction L generalizing k with
  | nil => cases hk
  | cons p L ih =>
    cases k with
    | zero =>
      simp only [cellsOf, List.flatMap_cons, Nat.zero_mul, Nat.zero_add]
      rw [List.getElem?_append_left (by simpa using hj)]
      rfl
    | succ k =>
      simp only [cellsOf, List.flatMap_cons]
      rw [List.getElem?_append_right (by simp; omega)]
      have := ih (k := k) (by simpa using hk)
      simp only [List.length_cons, List.length_nil, List.getElem_cons_succ] at *
      rw [show (k + 1) * 3 + j - (0 + 1 + 1 + 1) = k * 3 + j by omega]
      exact this

theorem look_keep {w W w2 : World} {a b c : Value} (hb : Below W.drew.heap.size W.drew w2) (hs : W.heap.size = w.heap.size + 1) (h0 : W.cell? ⟨w.heap.size, 0, none⟩ = some a) (h1 : W.cell? ⟨w.heap.size, 1, none⟩ = some b) (h2 : W.cell? ⟨w.heap.size, 2, none⟩ = some c) :
    w2.cell? ⟨w.heap.size, 0, none⟩ = some a ∧ w2.cell? ⟨w.heap.size, 1, none⟩ = some b ∧ w2.cell? ⟨w.heap.size, 2, none⟩ = some c := by
  have hlt : w.heap.size < W.drew.heap.size := by show w.heap.size < W.heap.size; omega
  exact ⟨(hb.cell (p := ⟨w.heap.size, 0, none⟩) hlt).trans h0, (hb.cell (p := ⟨w.heap.size, 1, none⟩) hlt).trans h1, (hb.cell (p := ⟨w.heap.size, 2, none⟩) hlt).trans h2⟩

def LookPost (m : Msg) (w : World) (e : Ending) (w' : World) : Prop :=
  Below w.heap.size w w' ∧ ∃ v, e = .returned (.tuple #[.int .i64 m.fr, .int .i64 m.to, v, .bool true]) ∧ w'.ownsRow w.heap.size 5 1 v m.b.length (u8s m.b)

theorem look_in (B fb mb : Nat) (lv : Value) (L : List (Msg × Value)) (k : Nat) (hk : k < L.length) (w : World) (hf : FlightAt B fb mb lv L w) (hb : (L[k]'hk).1.b.length ≤ 140737488351232) (hL : L.length ≤ 16384) :
    Calls Try.prog 10 #[.pointer (some ⟨fb, 0, none⟩), .int .i64 k] w (LookPost (L[k]'hk).1 w) := by
  obtain ⟨g, cap, rfl, hgB, hglt⟩ := hf.own.form (by omega)
  have hc0 : w.cell? ⟨fb, 0, none⟩ = some (.slice (some ⟨g, 0, none⟩) L.length cap) := by rw [cell_of_row w fb 0 _ _ _ hf.st]; rfl
  have e0 := hf.own.cellAt (k * 3) (by omega)
  have e1 := hf.own.cellAt (k * 3 + 1) (by omega)
  have e2 := hf.own.cellAt (k * 3 + 2) (by omega)
  have c0 := cells_at hk 0 (by omega)
  rw [Nat.add_zero] at c0
  rw [c0] at e0
  rw [cells_at hk 1 (by omega)] at e1
  rw [cells_at hk 2 (by omega)] at e2
  have hown := hf.bytes _ (List.getElem_mem hk)
  generalize L[k]'hk = p at *
  obtain ⟨m, v⟩ := p
  simp only [] at e0 e1 e2 hown hb
  obtain ⟨Av, cv, rfl⟩ := own_slice hown
  have HLn := Lib.hid (len_any fb mb _ _ _ w hf.st)
  have HC := Lib.hid (fun w => clone_any (.slice Av m.b.length cv) m.b w)
  have HF := Lib.hid hf
  have hk' : (k : Int) < (L.length : Int) := by omega
  have hL' : (L.length : Int) ≤ 16384 := by omega
  clear hf hL c0
  go_enter Try.func10, Try.ntmps10
  go_wp2_with (go_at_call 16; refine HLn.out.mono ?_; rintro e w' ⟨rfl, rfl⟩)
  have hrd : ReadsB w (.slice Av m.b.length cv) m.b := ReadsB.own hown
  obtain ⟨O, hO⟩ : ∃ O, O = Obj.cells #[Value.int .i64 m.fr, .int .i64 m.to, .slice Av m.b.length cv] 55 := ⟨_, rfl⟩
  have n0 : (w.alloc O).cell? ⟨w.heap.size, 0, none⟩ = some (.int .i64 m.fr) := by rw [hO, cell_of_row _ _ 0 _ _ (0, 0) (heap_alloc_new w _)]; rfl
  have n1 : (w.alloc O).cell? ⟨w.heap.size, 1, none⟩ = some (.int .i64 m.to) := by rw [hO, cell_of_row _ _ 1 _ _ (0, 0) (heap_alloc_new w _)]; rfl
  have n2 : (w.alloc O).cell? ⟨w.heap.size, 2, none⟩ = some (.slice Av m.b.length cv) := by rw [hO, cell_of_row _ _ 2 _ _ (0, 0) (heap_alloc_new w _)]; rfl
  have hb1 : Below w.heap.size w (w.alloc O) := (Below.refl _ _).alloc (Nat.le_refl _) _
  have hsz : (w.alloc O).heap.size = w.heap.size + 1 := by simp
  rw [← hO]
  have hrd1 := hrd.below hb1
  have HS := Lib.hid hsz
  generalize w.alloc O = W at *
  clear hO e0 e1 e2 hown hrd hsz
  go_region_held3 (fun w' => w'.cell? ⟨w.heap.size, 0, none⟩ = some (.int .i64 m.fr) ∧ w'.cell? ⟨w.heap.size, 1, none⟩ = some (.int .i64 m.to) ∧ w'.cell? ⟨w.heap.size, 2, none⟩ = some (.slice Av m.b.length cv)) (first | go_keep | exact hks)
    (first | (go_at_call 22; refine (HC.out _ ?_ hb).mono ?_; (exact hrd1); rintro e w2 ⟨v', rfl, hown', hbel', _⟩; obtain ⟨A', c', rfl⟩ := own_slice hown'; have hks : w2.cell? ⟨w.heap.size, 0, none⟩ = some (.int .i64 m.fr) ∧ w2.cell? ⟨w.heap.size, 1, none⟩ = some (.int .i64 m.to) ∧ w2.cell? ⟨w.heap.size, 2, none⟩ = some (.slice Av m.b.length cv) := look_keep hbel' HS.out n0 n1 n2))
  all_goals
    have HE : Hid (Below w.heap.size w w2 ∧ w2.ownsRow w.heap.size 5 1 (.slice A' m.b.length c') m.b.length (u8s m.b)) :=
      ⟨hb1.trans ((show Below w.heap.size W w2 from (Below.drew (Below.refl _ W)).trans (hbel'.mono (show w.heap.size ≤ W.heap.size by have := HS.out; omega)))), own_mono hown' (show w.heap.size ≤ W.heap.size by have := HS.out; omega)⟩
    clear hbel' hown' hks
    go_wp2_with fail
    exact bodyPost_ret (v := .tuple #[.int .i64 m.fr, .int .i64 m.to, .slice A' m.b.length c', .bool true]) (by simp [results, Try.results10, go_sem]) rfl ⟨HE.out.1, _, rfl, HE.out.2⟩

def NonePost (w : World) (e : Ending) (w' : World) : Prop :=
  w = w' ∧ e = .returned (.tuple #[.int .i64 0, .int .i64 0, .slice none 0 0, .bool false])
theorem look_out (B fb mb : Nat) (lv : Value) (L : List (Msg × Value)) (i : Int) (hi : i < 0 ∨ (L.length : Int) ≤ i) (w : World) (hf : FlightAt B fb mb lv L w) :
    Calls Try.prog 10 #[.pointer (some ⟨fb, 0, none⟩), .int .i64 i] w (NonePost w) := by
  obtain ⟨A, c, rfl⟩ := own_slice hf.own
  have HLn := Lib.hid (len_any fb mb _ _ _ w hf.st)
  clear hf
  rcases hi with hi | hi
  · go_enter Try.func10, Try.ntmps10
    go_wp2_with (go_at_call 16; refine HLn.out.mono ?_; rintro e w' ⟨rfl, rfl⟩)
    exact bodyPost_ret (v := .tuple #[.int .i64 0, .int .i64 0, .slice none 0 0, .bool false]) (by simp [results, Try.results10, go_sem]) rfl ⟨rfl, rfl⟩
  · have h0 : ¬ i < 0 := by omega
    go_enter Try.func10, Try.ntmps10
    go_wp2_with (go_at_call 16; refine HLn.out.mono ?_; rintro e w' ⟨rfl, rfl⟩)
    exact bodyPost_ret (v := .tuple #[.int .i64 0, .int .i64 0, .slice none 0 0, .bool false]) (by simp [results, Try.results10, go_sem]) rfl ⟨rfl, rfl⟩
end Go.Proofs.Ytlieepbmmfdeoaa
