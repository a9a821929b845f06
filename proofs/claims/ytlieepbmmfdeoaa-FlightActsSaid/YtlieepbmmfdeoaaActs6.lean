/- The walk of the law's 'does': clear. -/
import Derived.Test.YtlieepbmmfdeoaaActs5
namespace Go.Proofs.Ytlieepbmmfdeoaa
open Go.RowKit Own

def offM (node : Int) (m : Msg) : Bool := !(m.to == node)
/-- the rest that is being made, beside both -/
structure RestSt (W : World) (rest : Value) (R : List Msg) (w : World) : Prop where
  below : Below W.heap.size W w
  own : w.ownsRow W.heap.size 32 3 rest R.length (cellsM R)
theorem RestSt.push {W w : World} {A : Option Addr} {c : Nat} {R : List Msg} (h : RestSt W (.slice A R.length c) R w) (m : Msg) (hl : R.length ≤ 16384) :
    ∃ A' c' w', (appendH #[40, 40] 40 #[.slice A R.length c, .slice (some ⟨w.heap.size, 0, none⟩) 1 1]).run Try.prog (w.alloc (.cells #[.int .i64 m.fr, .int .i64 m.to, .string ⟨m.b.toArray⟩] 32)) = .ok (.slice A' (R.length + 1) c') w' ∧
      RestSt W (.slice A' (R.length + 1) c') (R ++ [m]) w' := by
  obtain ⟨i0, hi, hz0, hz1, hz2⟩ := info_parts infoM
  have hb : Below w.heap.size w (w.alloc (.cells #[.int .i64 m.fr, .int .i64 m.to, .string ⟨m.b.toArray⟩] 32)) := (Below.refl _ _).alloc (Nat.le_refl _) _
  have ho := own_below h.own hb
  obtain ⟨v', w', hr, hown, hg, _, _⟩ := run_append_own_at (P := Try.prog) (w.alloc (.cells #[.int .i64 m.fr, .int .i64 m.to, .string ⟨m.b.toArray⟩] 32)) W.heap.size 40 40 32 i0 _ 3 32 Try.underlying40 hi hz0 hz1 hz2 rfl (by decide) _ _ _ ho ⟨w.heap.size, 0, none⟩ 1 1 [.int .i64 m.fr, .int .i64 m.to, .string ⟨m.b.toArray⟩] rfl
    (World.news_of_block (cs := #[.int .i64 m.fr, .int .i64 m.to, .string ⟨m.b.toArray⟩]) (t := 32) (fr := (0, 0)) (heap_alloc_new w _)) (fun u hu => by
      simp only [List.mem_cons, List.mem_nil_iff, or_false] at hu
      rcases hu with rfl | rfl | rfl <;> rfl) (by unfold maxLen; omega) (by omega) (Nat.le_trans h.below.size hb.size)
  have hsn : cellsM R ++ [.int .i64 m.fr, .int .i64 m.to, .string ⟨m.b.toArray⟩] = cellsM (R ++ [m]) := (cellsM_snoc R m).symm
  rw [hsn] at hown
  obtain ⟨A', c', rfl⟩ := own_slice hown
  refine ⟨A', c', w', hr, (h.below.trans (hb.mono h.below.size)).grown hg (Nat.le_trans h.below.size hb.size) (fun k hk => (ho.lt k hk).1), ?_⟩
  have hlen : (R ++ [m]).length = R.length + 1 := by simp
  rw [hlen]; exact hown

section
variable {w0 w : World} {fb mb n rb ob : Nat} {f : Value → Option Value} {L : List (Msg × Value)} {ML : List Msg} {PP : List (Int × Int)} {d a b : Int} {v : Value}
theorem filter_map (L : List (Msg × Value)) (x : Int) : (L.filter (keepsOff x)).map (·.1) = (L.map (·.1)).filter (offM x) := by
  rw [List.filter_map]; rfl
theorem jb_clear (h : JB w0 fb mb n f L rb ML PP ob d a b v w) (x : Int) (hL : L.length ≤ 16384) :
    Calls Try.prog 21 #[.pointer (some ⟨fb, 0, none⟩), .int .i64 x] w fun e w' => e = .returned (.int .i64 ((L.length : Int) - ((L.filter (keepsOff x)).length : Int))) ∧ JB w0 fb mb n f (L.filter (keepsOff x)) rb ML PP ob d a b v w' := by
  obtain ⟨lv, h1⟩ := h.fl
  by_cases h0 : 0 < L.length
  · refine (clear_any _ fb mb lv x L w h1.at_ h0 hL).mono ?_
    rintro e w' ⟨lv', rfl, hf, hc⟩
    obtain ⟨h2, h3⟩ := h1.turn hf hc (fun p hp => h1.wf p (List.mem_filter.1 hp).1)
    exact ⟨rfl, h.keeps h3 h2⟩
  · obtain rfl : L = [] := List.length_eq_zero_iff.1 (by omega)
    refine (clear_nil _ fb mb lv x w h1.at_).mono ?_
    rintro e w' ⟨rfl, hb⟩
    exact ⟨rfl, h.go hb⟩
theorem jb_rest (h : JB w0 fb mb n f L rb ML PP ob d a b v w) {rest : Value} {R : List Msg} {w' : World} (hr : RestSt w rest R w') :
    (∃ x, w'.cell? ⟨rb, 0, none⟩ = some x) ∧ w'.frozen? ⟨rb, 0, none⟩ = false ∧ JB w0 fb mb n f L rb R PP ob d a b v (w'.setCell ⟨rb, 0, none⟩ rest) := by
  obtain ⟨lv2, pv, h2⟩ := h.md
  obtain ⟨h3, h4⟩ := h2.setL hr.below hr.own
  have h5 := h2.below hr.below
  have ht : TStep modT w0.heap.size w (w'.setCell ⟨rb, 0, none⟩ rest) := h4
  exact ⟨⟨lv2, by rw [cell_of_row _ _ 0 _ _ _ h5.st]; rfl⟩, frozen_of_block h5.st 0, h.tstep ht h3⟩
end
end Go.Proofs.Ytlieepbmmfdeoaa
