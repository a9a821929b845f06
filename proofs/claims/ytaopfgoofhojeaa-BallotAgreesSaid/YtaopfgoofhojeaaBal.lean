/- Ballots: the walks of the small functions. -/
import Derived.Test.YtaopfgoofhojeaaClone
import Derived.Deep.QuietTactic
import Derived.BigQuiet
import Derived.Deep.RegionHeld3
import Derived.Deep.RegionLaw
namespace Go.Proofs.Ytaopfgoofhojeaa
open Go.RowKit Own

structure Bal where
  r : Int
  m : Int
deriving DecidableEq
def Bal.v (b : Bal) : Value := .agg #[.int .i64 b.r, .int .i64 b.m]
def lessB (a b : Bal) : Bool := decide (a.r < b.r) || (a.r == b.r && decide (a.m < b.m))
def mayB (b : Bal) : Bool := decide (1 ≤ b.r) && decide (b.r ≤ 2147483647) && decide (0 ≤ b.m) && decide (b.m < 7)
def zeroB (b : Bal) : Bool := b.r == 0 && b.m == 0
def Ans (v : Value) (w : World) (e : Ending) (w' : World) : Prop := e = .returned v ∧ Below w.heap.size w w'

theorem less_any (r1 m1 r2 m2 : Int) (w : World) : Calls Try.prog 16 #[.agg #[.int .i64 r1, .int .i64 m1], .agg #[.int .i64 r2, .int .i64 m2]] w (Ans (.bool (lessB ⟨r1, m1⟩ ⟨r2, m2⟩)) w) := by
  have hb : ∀ o o2 : Obj, Below w.heap.size w ((w.alloc o).alloc o2) := fun o o2 => ((Below.refl _ _).alloc (Nat.le_refl _) _).alloc (by simp) _
  by_cases h : r1 < r2
  · have HV : Hid (lessB ⟨r1, m1⟩ ⟨r2, m2⟩ = true) := by show _ = _; simp [lessB, h]
    go_enter Try.func16, Try.ntmps16
    go_wp2_with fail
    go_ret
    exact ⟨by rw [HV.out]; rfl, hb _ _⟩
  · by_cases h2 : r1 = r2
    · subst h2
      have HV : Hid (lessB ⟨r1, m1⟩ ⟨r1, m2⟩ = decide (m1 < m2)) := by show _ = _; simp [lessB]
      go_enter Try.func16, Try.ntmps16
      go_wp2_with fail
      go_ret
      exact ⟨by rw [HV.out]; rfl, hb _ _⟩
    · have h2' : (r1 == r2) = false := beq_eq_false_iff_ne.2 h2
      have HV : Hid (lessB ⟨r1, m1⟩ ⟨r2, m2⟩ = false) := by show _ = _; simp [lessB, h, h2]
      clear h2
      go_enter Try.func16, Try.ntmps16
      go_wp2_with fail
      go_ret
      exact ⟨by rw [HV.out]; rfl, hb _ _⟩
theorem rless_any (r1 m1 r2 m2 : Int) (w : World) : Calls Try.prog 20 #[.agg #[.int .i64 r1, .int .i64 m1], .agg #[.int .i64 r2, .int .i64 m2]] w (Ans (.bool (lessB ⟨r1, m1⟩ ⟨r2, m2⟩)) w) := by
  have hb : ∀ o o2 : Obj, Below w.heap.size w ((w.alloc o).alloc o2) := fun o o2 => ((Below.refl _ _).alloc (Nat.le_refl _) _).alloc (by simp) _
  by_cases h2 : r1 = r2
  · subst h2
    have h2' : (r1 != r1) = false := by simp
    have HV : Hid (lessB ⟨r1, m1⟩ ⟨r1, m2⟩ = decide (m1 < m2)) := by show _ = _; simp [lessB]
    go_enter Try.func20, Try.ntmps20
    go_wp2_with fail
    go_ret
    exact ⟨by rw [HV.out]; rfl, hb _ _⟩
  · have h2' : (r1 != r2) = true := bne_iff_ne.2 h2
    have HV : Hid (lessB ⟨r1, m1⟩ ⟨r2, m2⟩ = decide (r1 < r2)) := by show _ = _; simp [lessB, h2]
    clear h2
    go_enter Try.func20, Try.ntmps20
    go_wp2_with fail
    go_ret
    exact ⟨by rw [HV.out]; rfl, hb _ _⟩

theorem may_cases (r m : Int) : (¬ 1 ≤ r ∧ mayB ⟨r, m⟩ = false) ∨ (1 ≤ r ∧ ¬ r ≤ 2147483647 ∧ mayB ⟨r, m⟩ = false) ∨ (1 ≤ r ∧ r ≤ 2147483647 ∧ ¬ 0 ≤ m ∧ mayB ⟨r, m⟩ = false) ∨ (1 ≤ r ∧ r ≤ 2147483647 ∧ 0 ≤ m ∧ mayB ⟨r, m⟩ = decide (m < 7)) := by
  by_cases h1 : 1 ≤ r
  · by_cases h2 : r ≤ 2147483647
    · by_cases h3 : 0 ≤ m
      · exact .inr (.inr (.inr ⟨h1, h2, h3, by simp [mayB, h1, h2, h3]⟩))
      · exact .inr (.inr (.inl ⟨h1, h2, h3, by simp [mayB, h3]⟩))
    · exact .inr (.inl ⟨h1, h2, by simp [mayB, h2]⟩)
  · exact .inl ⟨h1, by simp [mayB, h1]⟩
theorem may_any (r m : Int) (w : World) : Calls Try.prog 15 #[.agg #[.int .i64 r, .int .i64 m]] w (Ans (.bool (mayB ⟨r, m⟩)) w) := by
  have hb : ∀ o : Obj, Below w.heap.size w (w.alloc o) := fun o => (Below.refl _ _).alloc (Nat.le_refl _) _
  rcases may_cases r m with ⟨h1, hv⟩ | ⟨h1, h2, hv⟩ | ⟨h1, h2, h3, hv⟩ | ⟨h1, h2, h3, hv⟩
  all_goals
    have HV := Lib.hid hv
    clear hv
    go_enter Try.func15, Try.ntmps15
    go_wp2_with fail
    go_ret
    exact ⟨by rw [HV.out]; rfl, hb _⟩
theorem rmay_any (r m : Int) (w : World) : Calls Try.prog 19 #[.agg #[.int .i64 r, .int .i64 m]] w (Ans (.bool (mayB ⟨r, m⟩)) w) := by
  have hb : ∀ o : Obj, Below w.heap.size w (w.alloc o) := fun o => (Below.refl _ _).alloc (Nat.le_refl _) _
  rcases may_cases r m with ⟨h1, hv⟩ | ⟨h1, h2, hv⟩ | ⟨h1, h2, h3, hv⟩ | ⟨h1, h2, h3, hv⟩
  all_goals
    have HV := Lib.hid hv
    clear hv
    go_enter Try.func19, Try.ntmps19
    go_wp2_with fail
    go_ret
    exact ⟨by rw [HV.out]; rfl, hb _⟩
theorem zero_cases (r m : Int) : (r = 0 ∧ m = 0 ∧ zeroB ⟨r, m⟩ = true) ∨ (r = 0 ∧ ¬ m = 0 ∧ zeroB ⟨r, m⟩ = false) ∨ (¬ r = 0 ∧ zeroB ⟨r, m⟩ = false) := by
  by_cases h1 : r = 0
  · by_cases h2 : m = 0
    · exact .inl ⟨h1, h2, by simp [zeroB, h1, h2]⟩
    · exact .inr (.inl ⟨h1, h2, by simp [zeroB, h2]⟩)
  · exact .inr (.inr ⟨h1, by simp [zeroB, h1]⟩)
theorem zero_any (r m : Int) (w : World) : Calls Try.prog 22 #[.agg #[.int .i64 r, .int .i64 m]] w (Ans (.bool (zeroB ⟨r, m⟩)) w) := by
  have hb : ∀ o : Obj, Below w.heap.size w (w.alloc o) := fun o => (Below.refl _ _).alloc (Nat.le_refl _) _
  rcases zero_cases r m with ⟨rfl, rfl, hv⟩ | ⟨rfl, h2, hv⟩ | ⟨h1, hv⟩
  all_goals
    have HV := Lib.hid hv
    clear hv
    go_enter Try.func22, Try.ntmps22
    go_wp2_with fail
    go_ret
    exact ⟨by rw [HV.out]; rfl, hb _⟩

structure Acc where
  p : Bal
  a : Bal
  l : List UInt8
def Acc.v (x : Acc) (b : Value) : Value := .agg #[.int .i64 x.p.r, .int .i64 x.p.m, .int .i64 x.a.r, .int .i64 x.a.m, b]
def mayA (x : Acc) : Bool := (zeroB x.p || mayB x.p) && (zeroB x.a || mayB x.a) && !lessB x.p x.a && (decide (x.l.length = 0) || !zeroB x.a)

set_option maxRecDepth 100000 in
theorem mayA_any (pr pm ar am : Int) (A : Option Addr) (l : List UInt8) (c : Nat) (w : World) :
    Calls Try.prog 14 #[.agg #[.int .i64 pr, .int .i64 pm, .int .i64 ar, .int .i64 am, .slice A l.length c]] w (Ans (.bool (mayA ⟨⟨pr, pm⟩, ⟨ar, am⟩, l⟩)) w) := by
  obtain ⟨O, hO⟩ : ∃ O, O = Obj.cells #[Value.int .i64 pr, .int .i64 pm, .int .i64 ar, .int .i64 am, .slice A l.length c] 26 := ⟨_, rfl⟩
  have HC : Hid (∀ w', Below (w.alloc O).heap.size (w.alloc O) w' → w'.cell? ⟨w.heap.size, 0, none⟩ = some (.int .i64 pr) ∧ w'.cell? ⟨w.heap.size, 1, none⟩ = some (.int .i64 pm) ∧ w'.cell? ⟨w.heap.size, 2, none⟩ = some (.int .i64 ar) ∧ w'.cell? ⟨w.heap.size, 3, none⟩ = some (.int .i64 am) ∧ w'.cell? ⟨w.heap.size, 4, none⟩ = some (.slice A l.length c)) := fun w' h => by
    have hh : w'.heap[w.heap.size]? = some (.cells #[Value.int .i64 pr, .int .i64 pm, .int .i64 ar, .int .i64 am, .slice A l.length c] 26 (0, 0)) := by
      rw [h.block _ (by simp), hO]; exact heap_alloc_new w _
    exact ⟨by rw [cell_of_row _ _ 0 _ _ _ hh]; rfl, by rw [cell_of_row _ _ 1 _ _ _ hh]; rfl, by rw [cell_of_row _ _ 2 _ _ _ hh]; rfl, by rw [cell_of_row _ _ 3 _ _ _ hh]; rfl, by rw [cell_of_row _ _ 4 _ _ _ hh]; rfl⟩
  have HZP := Lib.hid (fun w => zero_any pr pm w)
  have HMP := Lib.hid (fun w => may_any pr pm w)
  have HZA := Lib.hid (fun w => zero_any ar am w)
  have HMA := Lib.hid (fun w => may_any ar am w)
  have HL := Lib.hid (fun w => less_any pr pm ar am w)
  have HV : Hid (mayA ⟨⟨pr, pm⟩, ⟨ar, am⟩, l⟩ = ((zeroB ⟨pr, pm⟩ || mayB ⟨pr, pm⟩) && (zeroB ⟨ar, am⟩ || mayB ⟨ar, am⟩) && !lessB ⟨pr, pm⟩ ⟨ar, am⟩ && ((l.length : Int) == 0 || !zeroB ⟨ar, am⟩))) := by
    show _ = _
    have : decide (l.length = 0) = ((l.length : Int) == 0) := by
      rw [Bool.eq_iff_iff]; simp
    simp only [mayA, this]
  have HB : Hid (Below w.heap.size w (w.alloc O)) := (Below.refl _ _).alloc (Nat.le_refl _) _
  have HSz : Hid (w.heap.size ≤ (w.alloc O).heap.size) := HB.out.size
  generalize mayA ⟨⟨pr, pm⟩, ⟨ar, am⟩, l⟩ = res at *
  generalize zeroB ⟨pr, pm⟩ = zp at *
  generalize mayB ⟨pr, pm⟩ = mp at *
  generalize zeroB ⟨ar, am⟩ = za at *
  generalize mayB ⟨ar, am⟩ = ma at *
  generalize lessB ⟨pr, pm⟩ ⟨ar, am⟩ = lt at *
  obtain ⟨k0, k1, k2, k3, k4⟩ := HC.out _ (Below.refl _ _)
  rw [hO] at HC HB HSz k0 k1 k2 k3 k4
  clear hO
  go_enter Try.func14, Try.ntmps14
  have HBL : Hid (Below (w.alloc (Obj.cells #[Value.int .i64 pr, .int .i64 pm, .int .i64 ar, .int .i64 am, .slice A l.length c] 26)).heap.size (w.alloc (Obj.cells #[Value.int .i64 pr, .int .i64 pm, .int .i64 ar, .int .i64 am, .slice A l.length c] 26)) (w.alloc (Obj.cells #[Value.int .i64 pr, .int .i64 pm, .int .i64 ar, .int .i64 am, .slice A l.length c] 26))) := Below.refl _ _
  go_wp2_with (first
    | (go_at_call 22; (with_reducible refine (HZP.out _).mono ?_); rintro e wn ⟨rfl, hb⟩; replace HBL := Lib.hid (HBL.out.trans (hb.mono HBL.out.size)); obtain ⟨k0, k1, k2, k3, k4⟩ := HC.out _ HBL.out; clear hb) 
    | (go_at_call 15; (with_reducible refine (HMP.out _).mono ?_); rintro e wn ⟨rfl, hb⟩; replace HBL := Lib.hid (HBL.out.trans (hb.mono HBL.out.size)); obtain ⟨k0, k1, k2, k3, k4⟩ := HC.out _ HBL.out; clear hb) 
    | (go_at_call 22; (with_reducible refine (HZA.out _).mono ?_); rintro e wn ⟨rfl, hb⟩; replace HBL := Lib.hid (HBL.out.trans (hb.mono HBL.out.size)); obtain ⟨k0, k1, k2, k3, k4⟩ := HC.out _ HBL.out; clear hb) 
    | (go_at_call 15; (with_reducible refine (HMA.out _).mono ?_); rintro e wn ⟨rfl, hb⟩; replace HBL := Lib.hid (HBL.out.trans (hb.mono HBL.out.size)); obtain ⟨k0, k1, k2, k3, k4⟩ := HC.out _ HBL.out; clear hb) 
    | (go_at_call 16; (with_reducible refine (HL.out _).mono ?_); rintro e wn ⟨rfl, hb⟩; replace HBL := Lib.hid (HBL.out.trans (hb.mono HBL.out.size)); obtain ⟨k0, k1, k2, k3, k4⟩ := HC.out _ HBL.out; clear hb))
  all_goals
    go_ret
    refine ⟨?_, HB.out.trans (HBL.out.mono HSz.out)⟩
    rw [HV.out]
    simp_all
end Go.Proofs.Ytaopfgoofhojeaa
