/- The law's own model of a flight in memory; who is parted in it. -/
import Derived.Test.YtlieepbmmfdeoaaClear2
import Derived.Test.YtlieepbmmfdeoaaBytesIn
namespace Go.Proofs.Ytlieepbmmfdeoaa
open Go.RowKit Own

def strV (b : List UInt8) : Value := .string ⟨b.toArray⟩
def cellsM (L : List Msg) : List Value := L.flatMap fun m => [.int .i64 m.fr, .int .i64 m.to, strV m.b]
def cellsP (L : List (Int × Int)) : List Value := L.flatMap fun p => [.int .i64 p.1, .int .i64 p.2]
theorem cellsM_length (L : List Msg) : (cellsM L).length = L.length * 3 := by
  induction L with
  | nil => rfl
  | cons p L ih => simp only [cellsM, List.flatMap_cons, List.length_append] at *; rw [ih]; simp; omega
theorem cellsP_length (L : List (Int × Int)) : (cellsP L).length = L.length * 2 := by
  induction L with
  | nil => rfl
  | cons p L ih => simp only [cellsP, List.flatMap_cons, List.length_append] at *; rw [ih]; simp; omega
theorem cellsM_append (L M : List Msg) : cellsM (L ++ M) = cellsM L ++ cellsM M := by simp [cellsM]
theorem cellsM_snoc (L : List Msg) (m : Msg) : cellsM (L ++ [m]) = cellsM L ++ [.int .i64 m.fr, .int .i64 m.to, strV m.b] := by simp [cellsM]
theorem cellsP_snoc (L : List (Int × Int)) (p : Int × Int) : cellsP (L ++ [p]) = cellsP L ++ [.int .i64 p.1, .int .i64 p.2] := by simp [cellsP]
theorem cellsM_cons (p : Msg) (L : List Msg) : cellsM (p :: L) = .int .i64 p.fr :: .int .i64 p.to :: strV p.b :: cellsM L := by simp [cellsM]
theorem cellsM_take : ∀ (L : List Msg) (k : Nat), cellsM (L.take k) = (cellsM L).take (k * 3)
  | _, 0 => by simp [cellsM]
  | [], k + 1 => by simp [cellsM]
  | p :: L, k + 1 => by
    rw [List.take_succ_cons, cellsM_cons, cellsM_cons, cellsM_take L k, show (k + 1) * 3 = k * 3 + 1 + 1 + 1 by omega, List.take_succ_cons, List.take_succ_cons, List.take_succ_cons]
theorem cellsM_drop : ∀ (L : List Msg) (k : Nat), cellsM (L.drop k) = (cellsM L).drop (k * 3)
  | _, 0 => by simp
  | [], k + 1 => by simp [cellsM]
  | p :: L, k + 1 => by
    rw [List.drop_succ_cons, cellsM_cons, cellsM_drop L k, show (k + 1) * 3 = k * 3 + 1 + 1 + 1 by omega, List.drop_succ_cons, List.drop_succ_cons, List.drop_succ_cons]
theorem cellsM_at {L : List Msg} {k : Nat} (hk : k < L.length) (j : Nat) (hj : j < 3) :
    (cellsM L)[k * 3 + j]? = [Value.int .i64 (L[k]'hk).fr, .int .i64 (L[k]'hk).to, strV (L[k]'hk).b][j]? := by
  induction L generalizing k with
  | nil => cases hk
  | cons p L ih =>
    cases k with
    | zero =>
      simp only [cellsM, List.flatMap_cons, Nat.zero_mul, Nat.zero_add]
      rw [List.getElem?_append_left (by simpa using hj)]
      rfl
    | succ k =>
      simp only [cellsM, List.flatMap_cons]
      rw [List.getElem?_append_right (by simp; omega)]
      have := ih (k := k) (by simpa using hk)
      simp only [List.length_cons, List.length_nil, List.getElem_cons_succ] at *
      rw [show (k + 1) * 3 + j - (0 + 1 + 1 + 1) = k * 3 + j by omega]
      exact this
theorem cellsP_at {L : List (Int × Int)} {k : Nat} (hk : k < L.length) (j : Nat) (hj : j < 2) :
    (cellsP L)[k * 2 + j]? = [Value.int .i64 (L[k]'hk).1, .int .i64 (L[k]'hk).2][j]? := by
  induction L generalizing k with
  | nil => cases hk
  | cons p L ih =>
    cases k with
    | zero =>
      simp only [cellsP, List.flatMap_cons, Nat.zero_mul, Nat.zero_add]
      rw [List.getElem?_append_left (by simpa using hj)]
      rfl
    | succ k =>
      simp only [cellsP, List.flatMap_cons]
      rw [List.getElem?_append_right (by simp; omega)]
      have := ih (k := k) (by simpa using hk)
      simp only [List.length_cons, List.length_nil, List.getElem_cons_succ] at *
      rw [show (k + 1) * 2 + j - (0 + 1 + 1) = k * 2 + j by omega]
      exact this
theorem cellsM_one (L : List Msg) : ∀ u ∈ cellsM L, u.oneCell' = true := by
  intro u hu
  obtain ⟨p, hp, hu⟩ := List.mem_flatMap.1 hu
  simp only [List.mem_cons, List.mem_nil_iff, or_false] at hu
  rcases hu with rfl | rfl | rfl <;> rfl
theorem infoM : (Try.prog.info? 32).map (fun i => (i.zero, i.size, i.bytes)) = some (some (.agg #[.int .i64 0, .int .i64 0, .string ⟨#[]⟩]), 3, 32) := by kernel_rfl
theorem infoP : (Try.prog.info? 59).map (fun i => (i.zero, i.size, i.bytes)) = some (some (.agg #[.int .i64 0, .int .i64 0]), 2, 16) := by kernel_rfl

/-- the types of the model's blocks -/
def modT : List TypeId := [43, 32, 59]
structure MdAt (B rb : Nat) (lv pv : Value) (ML : List Msg) (PP : List (Int × Int)) (w : World) : Prop where
  hB : B ≤ rb
  st : w.heap[rb]? = some (.cells #[lv, pv] 43 (0, 0))
  l : w.ownsRow B 32 3 lv ML.length (cellsM ML)
  p : w.ownsRow B 59 2 pv PP.length (cellsP PP)
theorem MdAt.below {B rb : Nat} {lv pv : Value} {ML : List Msg} {PP : List (Int × Int)} {w w' : World} (h : MdAt B rb lv pv ML PP w) (hb : Below w.heap.size w w') : MdAt B rb lv pv ML PP w' :=
  ⟨h.hB, (hb.block rb (Array.getElem?_eq_some_iff.1 h.st).1).trans h.st, own_below h.l hb, own_below h.p hb⟩
/-- nothing has turned but blocks of these types, from B on -/
structure TStep (ts : List TypeId) (B : Nat) (w w' : World) : Prop where
  below : Below B w w'
  same : ∀ k, k < w.heap.size → (∀ cur t fr, w.heap[k]? = some (.cells cur t fr) → t ∉ ts) → w'.heap[k]? = w.heap[k]?
theorem TStep.of_below {ts : List TypeId} {B : Nat} {w w' : World} (hB : B ≤ w.heap.size) (h : Below w.heap.size w w') : TStep ts B w w' := ⟨h.mono hB, fun k hk _ => h.block k hk⟩
theorem TStep.trans {ts : List TypeId} {B : Nat} {a b c : World} (h : TStep ts B a b) (k : TStep ts B b c) : TStep ts B a c :=
  ⟨h.below.trans k.below, fun i hi ht => by
    have h1 := h.same i hi ht
    rw [← h1]
    exact k.same i (Nat.lt_of_lt_of_le hi h.below.size) (fun cur t fr e => ht cur t fr (h1 ▸ e))⟩
theorem TStep.of_chg {ts : List TypeId} {B : Nat} {w w' : World} {ks : List Nat} (h : Chg ks w w') (hB : B ≤ w.heap.size) (hk : ∀ k ∈ ks, B ≤ k ∧ (k < w.heap.size → ∃ cur t fr, w.heap[k]? = some (.cells cur t fr) ∧ t ∈ ts)) : TStep ts B w w' :=
  ⟨h.below hB fun k hx => (hk k hx).1, fun k hlt ht => h.block k hlt fun hx => by
    obtain ⟨cur, t, fr, e, hm⟩ := (hk k hx).2 hlt
    exact ht cur t fr e hm⟩

def hits (a b : Int) (p : Int × Int) : Bool := (p.1 == a && p.2 == b) || (p.1 == b && p.2 == a)
def partedM (PP : List (Int × Int)) (a b : Int) : Bool := PP.any (hits a b) && (a != b)
theorem pp_cells {w : World} {B g cap : Nat} {PP : List (Int × Int)} (h : w.ownsRow B 59 2 (.slice (some ⟨g, 0, none⟩) PP.length cap) PP.length (cellsP PP)) (k : Nat) (hk : k < PP.length) :
    w.cell? ⟨g, k * 2, none⟩ = some (.int .i64 (PP[k]'hk).1) ∧ w.cell? ⟨g, k * 2 + 1, none⟩ = some (.int .i64 (PP[k]'hk).2) := by
  have e0 := h.cellAt (k * 2) (by omega)
  have e1 := h.cellAt (k * 2 + 1) (by omega)
  have c0 := cellsP_at hk 0 (by omega)
  rw [Nat.add_zero] at c0
  rw [c0] at e0
  rw [cellsP_at hk 1 (by omega)] at e1
  exact ⟨e0, e1⟩
theorem ml_cells {w : World} {B g cap : Nat} {ML : List Msg} (h : w.ownsRow B 32 3 (.slice (some ⟨g, 0, none⟩) ML.length cap) ML.length (cellsM ML)) (k : Nat) (hk : k < ML.length) :
    w.cell? ⟨g, k * 3, none⟩ = some (.int .i64 (ML[k]'hk).fr) ∧ w.cell? ⟨g, k * 3 + 1, none⟩ = some (.int .i64 (ML[k]'hk).to) ∧ w.cell? ⟨g, k * 3 + 2, none⟩ = some (strV (ML[k]'hk).b) := by
  have e0 := h.cellAt (k * 3) (by omega)
  have e1 := h.cellAt (k * 3 + 1) (by omega)
  have e2 := h.cellAt (k * 3 + 2) (by omega)
  have c0 := cellsM_at hk 0 (by omega)
  rw [Nat.add_zero] at c0
  rw [c0] at e0
  rw [cellsM_at hk 1 (by omega)] at e1
  rw [cellsM_at hk 2 (by omega)] at e2
  exact ⟨e0, e1, e2⟩

theorem eq_pair (x y a b : Int) (w : World) : (Op.equalIn 10000 59 (.agg #[.int .i64 x, .int .i64 y]) (.agg #[.int .i64 a, .int .i64 b])).run Try.prog w = .ok (x == a && y == b) w := by
  obtain ⟨i0, hi, hz⟩ := Option.map_eq_some_iff.1 (show (Try.prog.info? 3).map (fun i => i.size) = some 1 by kernel_rfl)
  have hc : Try.prog.cellsOf 3 = 1 := by kernel_rfl
  rw [run_equalIn_array (P := Try.prog) w 9999 (t := 59) (e := 3) (n := 2) (i := i0) _ _ Try.underlying59 hi]
  have hp : ∀ (u v : Int) (j : Nat), j < 2 → (part 3 #[.int .i64 u, .int .i64 v] j).run Try.prog w = .ok (if j = 0 then .int .i64 u else .int .i64 v) w := fun u v j hj => by
    match j, hj with
    | 0, _ => simp [part, go_sem]
    | 1, _ => simp [part, go_sem]
  have he := fun (u v : Int) => run_equalIn_int (P := Try.prog) w 9998 3 .i64 .i64 u v Try.underlying3
  simp only [hc, List.range_succ, List.range_zero, List.nil_append, List.singleton_append, Op.eqItems, Sem.run_bind, Nat.zero_mul, Nat.one_mul]
  rw [hp _ _ 0 (by omega)]
  simp only [Result.andThen_ok]
  rw [hp _ _ 0 (by omega)]
  simp only [Result.andThen_ok, if_pos]
  rw [he]
  simp only [Result.andThen_ok]
  cases hx : (x == a)
  · simp
  · simp only [Bool.not_true, Bool.false_eq_true, if_false, Bool.true_and, Sem.run_bind]
    rw [hp _ _ 1 (by omega)]
    simp only [Result.andThen_ok]
    rw [hp _ _ 1 (by omega)]
    simp only [Result.andThen_ok]
    rw [if_neg (by decide), if_neg (by decide), he]
    simp only [Result.andThen_ok]
    cases hy : (y == b) <;> simp

theorem mparted_any (B rb : Nat) (lv pv : Value) (ML : List Msg) (PP : List (Int × Int)) (a b : Int) (w : World) (h : MdAt B rb lv pv ML PP w) (hP : PP.length ≤ 16384) :
    Calls Try.prog 18 #[.pointer (some ⟨rb, 0, none⟩), .int .i64 a, .int .i64 b] w fun e w' => e = .returned (.bool (partedM PP a b)) ∧ Below w.heap.size w w' := by
  obtain ⟨A, c, rfl⟩ := own_slice h.p
  have hc1 : w.cell? ⟨rb, 1, none⟩ = some (.slice A PP.length c) := by rw [cell_of_row w rb 1 _ _ _ h.st]; rfl
  have hrb : rb < w.heap.size := (Array.getElem?_eq_some_iff.1 h.st).1
  have HP := Lib.hid h.p
  have hP' : (PP.length : Int) ≤ 16384 := by omega
  clear h hP
  go_enter Try.func18, Try.ntmps18
  go_wp2_with fail
  go_loopw [7] (fun i wr => ∃ j : Nat, i = .int .i64 j ∧ j ≤ PP.length ∧ wr = w ∧ Hid ((PP.take j).any (hits a b) = false)) (fun i _ => PP.length - (intOf i).toNat)
  case atStart => exact ⟨0, rfl, Nat.zero_le _, rfl, rfl⟩
  case round =>
    obtain ⟨j, rfl, hjk, rfl, HJ⟩ := hrel
    by_cases hj : j < PP.length
    · have hj' : (j : Int) < (PP.length : Int) := by omega
      obtain ⟨g, cap, hvv, _, _⟩ := HP.out.form (by omega)
      cases hvv
      obtain ⟨e0, e1⟩ := pp_cells HP.out j hj
      have htk : (PP.take (j + 1)).any (hits a b) = (hits a b (PP[j]'hj)) := by
        rw [List.take_succ_eq_append_getElem hj, List.any_append, HJ.out]; simp
      have hmem := List.getElem_mem hj
      generalize PP[j]'hj = p at *
      obtain ⟨x, y⟩ := p
      simp only [] at e0 e1
      have h1 := eq_pair x y a b wr
      have h2 := eq_pair x y b a wr
      have hh : hits a b (x, y) = ((x == a && y == b) || (x == b && y == a)) := rfl
      rw [hh] at htk
      have hin : PP.any (hits a b) = ((x == a && y == b) || (x == b && y == a)) ∨ ((x == a && y == b) || (x == b && y == a)) = false := by
        cases hz : ((x == a && y == b) || (x == b && y == a)) with
        | false => exact .inr rfl
        | true => exact .inl (List.any_eq_true.2 ⟨(x, y), hmem, hh.trans hz⟩)
      generalize (x == a && y == b) = q1 at *
      generalize (x == b && y == a) = q2 at *
      have HT := Lib.hid htk
      have HI := Lib.hid hin
      clear htk hmem hh hin
      cases q1 with
      | true =>
        go_wp2_with fail
        go_ret
        refine ⟨?_, Below.refl _ _⟩
        rcases HI.out with h | h
        · unfold partedM; rw [h]; simp
        · simp at h
      | false =>
        cases q2 with
        | true =>
          go_wp2_with fail
          go_ret
          refine ⟨?_, Below.refl _ _⟩
          rcases HI.out with h | h
          · unfold partedM; rw [h]; simp
          · simp at h
        | false =>
          go_wp2_with fail
          go_roundw
          case rel => exact ⟨j + 1, by go_num, by omega, trivial, show _ = _ from HT.out⟩
          case measure => simp [intOf]; omega
    · obtain rfl : j = PP.length := by omega
      go_wp2_with fail
      go_ret
      refine ⟨?_, Below.refl _ _⟩
      have := HJ.out
      rw [List.take_length] at this
      unfold partedM
      rw [this]
      simp
end Go.Proofs.Ytlieepbmmfdeoaa
