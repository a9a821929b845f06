/- FlightActs: what stands behind one act. -/
import Derived.Test.YtlieepbmmfdeoaaActs9
import Derived.Test.YtlieepbmmfdeoaaAwake
import Derived.Deep.RegionHeld3
namespace Go.Proofs.Ytlieepbmmfdeoaa
open Go.RowKit Own

/-- a region's condition may be strengthened -/
theorem wpAnyH_mono {P : Program} {ops : Array Oper} {Q : Exit → Act → World → Prop} {md : Region.Mode} {S S' : World → Prop} (hSS : ∀ w, S' w → S w) : ∀ (fuel : Nat) (listed : Array Bool) (a : Act) (w : World), wpAnyH P md ops Q S' fuel listed a w → wpAnyH P md ops Q S fuel listed a w
  | 0, _, _, _, h => h
  | fuel + 1, _, _, _, h => ⟨h.1, fun i hi => wpOp_mono (fun a' w' h' => ⟨hSS _ h'.1, wpAnyH_mono hSS fuel _ a' w' h'.2⟩) (h.2 i hi)⟩
theorem c_does {w0 w : World} {fb mb rb m : Nat} (h : JS w0 fb mb rb m w) (hm : m ≤ 600) (x : ActIn) (hok : ActOk x) (v : Value) (hv : ReadsB w0 v x.l) :
    Calls Try.prog 15 #[.pointer (some ⟨fb, 0, none⟩), .pointer (some ⟨rb, 0, none⟩), .agg #[.int .i64 x.d, .int .i64 x.a, .int .i64 x.b, v]] w (DoesPost w0 fb mb rb (m + 1)) := by
  obtain ⟨A, c, hvv⟩ := hv.slice
  obtain ⟨d, a, b, l⟩ := x
  obtain ⟨h1, h2, h3⟩ := hok
  simp only [] at *
  by_cases e1 : d = 1
  · rw [hvv, e1]; exact does_deliver w0 fb mb rb m a b _ _ _ w h hm
  · by_cases e2 : d = 2
    · rw [hvv, e2]; exact does_drop w0 fb mb rb m a b _ _ _ w h hm
    · by_cases e3 : d = 3
      · rw [hvv, e3]; exact does_twice w0 fb mb rb m a b _ _ _ w h hm
      · by_cases e4 : d = 4
        · rw [hvv, e4]; exact does_part w0 fb mb rb m a b _ _ _ w h hm h1 h2
        · by_cases e5 : d = 5
          · rw [hvv, e5]; exact does_heal w0 fb mb rb m a b _ _ _ w h hm
          · by_cases e6 : d = 6
            · rw [hvv, e6]; exact does_clear w0 fb mb rb m a b _ _ _ w h hm
            · exact does_post w0 fb mb rb m d a b v l w h hm ⟨e1, e2, e3, e4, e5, e6⟩ hv h1 h2 h3

/-- what is asked of both behind an act -/
theorem c_after {w0 w : World} {fb mb rb m : Nat} (h : JS w0 fb mb rb m w) (hm : m ≤ 600) (a b : Int) (ha : (Lit.int .i64 a).wf = true) (hb : (Lit.int .i64 b).wf = true) : ∃ (len : Nat) (q : Bool) (A : Option Addr) (c : Nat),
    (∀ w', Below w.heap.size w w' → Calls Try.prog 16 #[.pointer (some ⟨fb, 0, none⟩)] w' fun e w'' => e = .returned (.int .i64 len) ∧ w' = w'') ∧
    (∀ w', Below w.heap.size w w' → w'.cell? ⟨rb, 0, none⟩ = some (.slice A len c)) ∧
    (∀ w', Below w.heap.size w w' → Calls Try.prog 17 #[.pointer (some ⟨fb, 0, none⟩), .int .i64 a, .int .i64 b] w' fun e w'' => e = .returned (.bool q) ∧ Below w'.heap.size w' w'') ∧
    (∀ w', Below w.heap.size w w' → Calls Try.prog 18 #[.pointer (some ⟨rb, 0, none⟩), .int .i64 a, .int .i64 b] w' fun e w'' => e = .returned (.bool q) ∧ Below w'.heap.size w' w'') := by
  obtain ⟨n, f, lv, L, lv2, pv, ML, PP, h1, h2, h3, h4, h5, h6⟩ := h
  obtain ⟨A, c, rfl⟩ := own_slice h2.l
  have hlen : L.length = ML.length := by rw [← h3, List.length_map]
  refine ⟨ML.length, partedM PP a b, A, c, fun w' hb' => ?_, fun w' hb' => ?_, fun w' hb' => ?_, fun w' hb' => ?_⟩
  · rw [← hlen]; exact fl_len (h1.go hb')
  · have := (h2.below hb').st
    rw [cell_of_row _ _ 0 _ _ _ this]; rfl
  · refine (fl_parted (h1.go hb') a b ha hb).mono ?_
    rintro e w'' ⟨rfl, _, h8⟩
    rw [h4.parted]
    exact ⟨rfl, h8⟩
  · exact mparted_any _ rb _ pv ML PP a b w' (h2.below hb') (by omega)
end Go.Proofs.Ytlieepbmmfdeoaa
