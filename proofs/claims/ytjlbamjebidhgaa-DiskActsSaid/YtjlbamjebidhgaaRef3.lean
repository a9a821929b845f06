/- The walks of the reference's Read, Dump, New. -/
import Derived.Test.YtjlbamjebidhgaaRef2
namespace Go.Proofs.Ytjlbamjebidhgaa
open Go.RowKit Own

/-- what the reference's Read reads -/
def readR (SS : List (List UInt8)) (Q : List (Nat × List UInt8)) (k : Nat) : List UInt8 := Q.foldl (fun a q => if q.1 = k then q.2 else a) (SS.getD k [])
theorem readR_take (SS : List (List UInt8)) (Q : List (Nat × List UInt8)) (k j : Nat) (hj : j < Q.length) : readR SS (Q.take (j + 1)) k = if (Q[j]'hj).1 = k then (Q[j]'hj).2 else readR SS (Q.take j) k := by
  unfold readR
  rw [List.take_succ_eq_append_getElem hj, List.foldl_append]
  rfl
theorem SS_cell {w : World} {B : Nat} {sv : Value} {SS : List (List UInt8)} (h : w.ownsRow B 9 1 sv SS.length (SS.map strV)) (k : Nat) (hk : k < SS.length) :
    ∃ g cap, sv = .slice (some ⟨g, 0, none⟩) SS.length cap ∧ SS.length ≤ cap ∧ B ≤ g ∧ w.cell? ⟨g, k, none⟩ = some (strV (SS.getD k [])) ∧ w.frozen? ⟨g, k, none⟩ = false := by
  obtain ⟨g, cap, hv, hg, _, hcap, hc, hf, _⟩ := own_reads h (by omega)
  refine ⟨g, cap, hv, hcap, hg, ?_, hf k⟩
  rw [hc k hk]
  simp [List.getElem?_eq_getElem hk, List.getD_eq_getElem?_getD]
def RReadOut (w : World) (e : Ending) (w' : World) : Prop := w = w' ∧ e = .returned (.tuple #[.slice none 0 0, .int .i64 1])
theorem rread_out (B rb : Nat) (sv pv : Value) (SS : List (List UInt8)) (Q : List (Nat × List UInt8)) (at_ : Int) (w : World) (h : RfAt B rb sv pv SS Q w) (hbad : inB SS.length at_ = false) :
    Calls Try.prog 17 #[.pointer (some ⟨rb, 0, none⟩), .int .i64 at_] w (RReadOut w) := by
  obtain ⟨A, c, rfl⟩ := own_slice h.safe
  have hc0 : w.cell? ⟨rb, 0, none⟩ = some (.slice A SS.length c) := by rw [cell_of_row w rb 0 _ _ _ h.st]; rfl
  have hcase : at_ < 0 ∨ (¬ at_ < 0 ∧ (SS.length : Int) ≤ at_) := by simp [inB] at hbad; omega
  clear h hbad
  rcases hcase with c1 | ⟨c1, c2⟩
  all_goals
    go_enter Try.func17, Try.ntmps17
    go_wp2_with fail
    go_ret2
    exact ⟨rfl, rfl⟩
def RReadPost (SS : List (List UInt8)) (Q : List (Nat × List UInt8)) (k : Nat) (w : World) (e : Ending) (w' : World) : Prop :=
  ∃ v, e = .returned (.tuple #[v, .int .i64 0]) ∧ ReadsB w' v (readR SS Q k) ∧ Below w.heap.size w w'
set_option maxRecDepth 100000 in
theorem rread_in (B rb k : Nat) (sv pv : Value) (SS : List (List UInt8)) (Q : List (Nat × List UInt8)) (w : World) (h : RfAt B rb sv pv SS Q w) (hk : k < SS.length) (hQ : Q.length ≤ 16384) :
    Calls Try.prog 17 #[.pointer (some ⟨rb, 0, none⟩), .int .i64 k] w (RReadPost SS Q k w) := by
  obtain ⟨g, cap, rfl, hcap, _, hcell, _⟩ := SS_cell h.safe k hk
  obtain ⟨Ap, cp, rfl⟩ := own_slice h.pend
  have hc0 : w.cell? ⟨rb, 0, none⟩ = some (.slice (some ⟨g, 0, none⟩) SS.length cap) := by rw [cell_of_row w rb 0 _ _ _ h.st]; rfl
  have hc1 : w.cell? ⟨rb, 1, none⟩ = some (.slice Ap Q.length cp) := by rw [cell_of_row w rb 1 _ _ _ h.st]; rfl
  have q0 : (0 : Int) ≤ (k : Int) := by omega
  have q1 : (k : Int) < (SS.length : Int) := by omega
  have q2 : ¬ (SS.length : Int) ≤ (k : Int) := by omega
  have q3 : (Q.length : Int) ≤ 16384 := by omega
  have HF := Lib.hid h
  have hstart : SS.getD k [] = readR SS (Q.take 0) k := by simp [readR]
  rw [hstart] at hcell
  clear h hk hQ hstart hcap
  go_enter Try.func17, Try.ntmps17
  go_wp2_with fail
  go_loop [6, 7] (fun s i => ∃ j : Nat, i = .int .i64 j ∧ j ≤ Q.length ∧ s = strV (readR SS (Q.take j) k)) (fun _ i => Q.length - (intOf i).toNat)
  case atStart => exact ⟨0, rfl, Nat.zero_le _, rfl⟩
  case round =>
    obtain ⟨j, rfl, hjk, rfl⟩ := hrel
    clear hcell
    by_cases hj : j < Q.length
    · have hj' : (j : Int) < (Q.length : Int) := by omega
      have hj0 : (0 : Int) ≤ (j : Int) := by omega
      obtain ⟨pg, pcap, hvv, _, _⟩ := HF.out.pend.form (by omega)
      cases hvv
      have e0 := HF.out.pend.cellAt (j * 2) (by omega)
      have e1 := HF.out.pend.cellAt (j * 2 + 1) (by omega)
      have c0 := cellsQ_at hj 0 (by omega)
      rw [Nat.add_zero] at c0
      rw [c0] at e0
      rw [cellsQ_at hj 1 (by omega)] at e1
      have htake := readR_take SS Q k j hj
      generalize Q[j]'hj = p at *
      obtain ⟨pat, pb⟩ := p
      simp only [] at htake
      have e0 : w.cell? ⟨pg, j * 2, none⟩ = some (.int .i64 pat) := e0
      have e1 : w.cell? ⟨pg, j * 2 + 1, none⟩ = some (strV pb) := e1
      by_cases hat : pat = k
      · have hE : ((pat : Int) == (k : Int)) = true := beq_iff_eq.2 (by omega)
        rw [if_pos hat] at htake
        have HT := Lib.hid htake
        clear htake hat c0
        go_wp2_with fail
        go_round
        case rel => exact ⟨j + 1, by go_num, by omega, by rw [HT.out]⟩
        case measure => simp [intOf]; omega
      · have hE : ((pat : Int) == (k : Int)) = false := beq_eq_false_iff_ne.2 (by omega)
        rw [if_neg hat] at htake
        have HT := Lib.hid htake
        clear htake hat c0
        go_wp2_with fail
        go_round
        case rel => exact ⟨j + 1, by go_num, by omega, by rw [HT.out]⟩
        case measure => simp [intOf]; omega
    · obtain rfl : j = Q.length := by omega
      have hj' : ¬ (Q.length : Int) < (Q.length : Int) := by omega
      obtain ⟨c, w', hr, hc, hrd, hb, _⟩ := conv_str (readR SS Q k) w
      have HR := Lib.hid hrd
      clear hrd
      go_wp2_with fail
      go_ret2
      exact ⟨_, rfl, HR.out, hb⟩

/-- an append of a string whose run is known -/
theorem wpList_append_run2 {P : Program} {ops : Array Oper} {rest : List Oper} {o : Oper} {a : Act} {Q : Exit → Act → World → Prop} {W W' : World} {s x : Operand} {t t' : TypeId} {v y v' : Value}
    (hgd : o.guard = none) (ho : o.op = .call { callee := .builtin .append, args := #[s, x], argTypes := #[t, t'] }) (hs : a.eval s = v) (hx : a.eval x = y)
    (hr : (Builtin.append_ #[t, t'] o.type #[v, y]).run P W = .ok v' W') (h : wpList P ops Q rest (a.put o.dst v') W') : wpList P ops Q (o :: rest) a W := by
  refine wpList_plain hgd fun K' hK' => ?_
  unfold Oper.wp execOp
  simp only [ho, resolve, invoke, builtin, Sem.run_bind, Sem.run_pure, Result.andThen_ok, List.map_toArray, List.map_cons, List.map_nil, hs, hx, hr]
  exact hK' _ _ h

def dumpR (SS : List (List UInt8)) : List UInt8 := SS.flatten
/-- what is dumped so far -/
def OutR (w0 : World) (g cap : Nat) (SS : List (List UInt8)) (j : Nat) (w : World) : Prop :=
  w.ownsRow w0.heap.size 5 1 (.slice (some ⟨g, 0, none⟩) (dumpR (SS.take j)).length cap) (dumpR (SS.take j)).length (u8s (dumpR (SS.take j))) ∧ Below w0.heap.size w0 w
theorem flat_le {SS : List (List UInt8)} (h : ∀ b ∈ SS, b.length = 64) : SS.flatten.length = SS.length * 64 := by
  induction SS with
  | nil => rfl
  | cons b L ih =>
    simp only [List.flatten_cons, List.length_append, List.length_cons]
    rw [ih fun c hc => h c (List.mem_cons_of_mem _ hc), h b (List.mem_cons_self ..)]
    omega
def RDumpPost (SS : List (List UInt8)) (w : World) (e : Ending) (w' : World) : Prop := ∃ v, e = .returned v ∧ ReadsB w' v (dumpR SS) ∧ Below w.heap.size w w'
set_option maxRecDepth 100000 in
theorem rdump_any (B rb : Nat) (sv pv : Value) (SS : List (List UInt8)) (Q : List (Nat × List UInt8)) (w : World) (h : RfAt B rb sv pv SS Q w) (hS : SS.length ≤ 4096) (h64 : ∀ b ∈ SS, b.length = 64) :
    Calls Try.prog 18 #[.pointer (some ⟨rb, 0, none⟩)] w (RDumpPost SS w) := by
  obtain ⟨A, c, rfl⟩ := own_slice h.safe
  have hrb : rb < w.heap.size := (Array.getElem?_eq_some_iff.1 h.st).1
  have hc0 : w.cell? ⟨rb, 0, none⟩ = some (.slice A SS.length c) := by rw [cell_of_row w rb 0 _ _ _ h.st]; rfl
  have q3 : (SS.length : Int) ≤ 4096 := by omega
  have H0 : Hid (OutR w w.heap.size 0 SS 0 (w.alloc (.cells #[] 5))) := ⟨World.ownsRow_made w #[] 0 (Nat.le_refl _) (by unfold maxLen; omega) rfl, (Below.refl _ _).alloc (Nat.le_refl _) _⟩
  have HF := Lib.hid h
  have H64 := Lib.hid h64
  have HS := Lib.hid hS
  clear h h64 hS
  go_enter Try.func18, Try.ntmps18
  go_wp2_with fail
  go_loopw [3, 4] (fun o i wr => ∃ (j g cap : Nat), i = .int .i64 j ∧ j ≤ SS.length ∧ o = .slice (some ⟨g, 0, none⟩) (dumpR (SS.take j)).length cap ∧ Hid (OutR w g cap SS j wr)) (fun _ i _ => SS.length - (intOf i).toNat)
  case atStart => exact ⟨0, w.heap.size, 0, rfl, Nat.zero_le _, rfl, H0⟩
  case round =>
    obtain ⟨j, g, cap, rfl, hjk, rfl, HJ⟩ := hrel
    obtain ⟨wL, rfl⟩ : ∃ wo : World, wo = wr := ⟨_, rfl⟩
    clear H0
    have hc0' : wL.cell? ⟨rb, 0, none⟩ = some (.slice A SS.length c) := (HJ.out.2.cell (p := ⟨rb, 0, none⟩) hrb).trans hc0
    by_cases hj : j < SS.length
    · have hj' : (j : Int) < (SS.length : Int) := by omega
      have hj0 : (0 : Int) ≤ (j : Int) := by omega
      obtain ⟨sg, scap, hvv, hcap, _, hcell, _⟩ := SS_cell HF.out.safe j hj
      cases hvv
      have hcell' := (HJ.out.2.cell (p := ⟨sg, j, none⟩) (World.block_lt_of_cell? w _ hcell)).trans hcell
      have hall := flat_le H64.out
      have htk : dumpR (SS.take j) ++ SS.getD j [] = dumpR (SS.take (j + 1)) := by
        unfold dumpR
        rw [List.take_succ_eq_append_getElem hj, List.flatten_append, List.getD_eq_getElem?_getD, List.getElem?_eq_getElem hj]
        simp only [List.flatten_cons, List.flatten_nil, List.append_nil, Option.getD_some]
      have hlen : (dumpR (SS.take (j + 1))).length ≤ 262144 := by
        have h1 := flat_le (SS := SS.take (j + 1)) (fun b hb => H64.out b (List.mem_of_mem_take hb))
        have h2 : (SS.take (j + 1)).length ≤ SS.length := by simp; omega
        have := HS.out
        unfold dumpR; omega
      obtain ⟨g', cap', w', hap, hown, hb⟩ := run_append_str wL w.heap.size g cap (dumpR (SS.take j)) (SS.getD j []) 23 HJ.out.1 (by rw [← htk, List.length_append] at hlen; omega) HJ.out.2.size
      rw [htk] at hap hown
      have HN : Hid (OutR w g' cap' SS (j + 1) w') := ⟨hown, HJ.out.2.trans hb⟩
      clear hown hb htk hlen hall hcell hcap HJ
      generalize SS.getD j [] = sj at *
      go_wp2_with (at_builtin; refine wpList_append_run2 rfl rfl rfl rfl hap ?_)
      go_roundw
      case rel => exact ⟨j + 1, g', cap', by go_num, by omega, rfl, HN⟩
      case measure => simp [intOf]; omega
    · obtain rfl : j = SS.length := by omega
      have hj' : ¬ (SS.length : Int) < (SS.length : Int) := by omega
      go_wp2_with fail
      go_ret
      have h1 := HJ.out.1
      refine ⟨_, rfl, ?_, HJ.out.2⟩
      have h2 : dumpR (SS.take SS.length) = dumpR SS := by rw [List.take_length]
      rw [h2] at h1
      exact ReadsB.own h1
end Go.Proofs.Ytjlbamjebidhgaa
