/- The walk of a disk's Crash. -/
import Derived.Test.YtjlbamjebidhgaaDisk3
import Derived.Laws.IdiomCopy
namespace Go.Proofs.Ytjlbamjebidhgaa
open Go.RowKit Own

/-- bools as cells -/
def boolV (l : List Bool) : List Value := l.map Value.bool
/-- a slice of bools that reads as a list -/
def ReadsC (w : World) (v : Value) (l : List Bool) : Prop :=
  (v = .slice none 0 0 ∧ l = []) ∨ ∃ a c, v = .slice (some a) l.length c ∧ ∀ j u, (boolV l)[j]? = some u → w.cell? (a.add j) = some u
theorem ReadsC.below {w w1 : World} {v : Value} {l : List Bool} (h : ReadsC w v l) (hb : Below w.heap.size w w1) : ReadsC w1 v l := by
  rcases h with h | ⟨a, c, hv, hc⟩
  · exact .inl h
  · refine .inr ⟨a, c, hv, fun j u hu => ?_⟩
    have := hc j u hu
    rw [hb.cell (p := a.add j) (World.block_lt_of_cell? w _ this)]
    exact this
theorem ReadsC.slice {w : World} {v : Value} {l : List Bool} (h : ReadsC w v l) : ∃ A c, v = .slice A l.length c := by
  rcases h with ⟨rfl, rfl⟩ | ⟨a, c, rfl, _⟩
  · exact ⟨none, 0, rfl⟩
  · exact ⟨some a, c, rfl⟩
theorem ReadsC.at_ {w : World} {v : Value} {l : List Bool} (h : ReadsC w v l) {j : Nat} (hj : j < l.length) : ∃ b off c, v = .slice (some ⟨b, off, none⟩) l.length c ∧ w.cell? ⟨b, off + j, none⟩ = some (.bool (l[j]'hj)) := by
  rcases h with ⟨_, rfl⟩ | ⟨a, c, rfl, hc⟩
  · cases hj
  · obtain ⟨b, off, spot⟩ := a
    have h0 := hc j (.bool (l[j]'hj)) (by simp [boolV, hj])
    by_cases hj0 : j = 0
    · subst hj0
      have hspot : spot = none := by simpa [Addr.add] using World.cell?_spot h0
      subst hspot
      exact ⟨b, off, c, rfl, by rw [← Go.WideShapes.add_plain]; exact h0⟩
    · have h1 := hc 0 (.bool (l[0]'(by omega))) (by simp [boolV])
      have hspot : spot = none := by simpa [Addr.add] using World.cell?_spot h1
      subst hspot
      exact ⟨b, off, c, rfl, by rw [← Go.WideShapes.add_plain]; exact h0⟩
/-- a copy whose run is known, in a region that draws its order -/
theorem step_copy_run {P : Program} {ops : Array Oper} {o : Oper} {a : Act} {K : Act → World → Prop} {Q : Exit → Act → World → Prop} {E : Prop} {W W' : World} {d s : Operand} {t t' : TypeId} {v u v' : Value}
    (hgd : o.guard = none) (ho : o.op = .call { callee := .builtin .copy, args := #[d, s], argTypes := #[t, t'] }) (hd : a.eval d = v) (hs : a.eval s = u)
    (hr : (Builtin.copy_ #[t, t'] o.type #[v, u]).run P W = .ok v' W') (h : K (a.put o.dst v') W') :
    if Region.wanted o (yielded ops a.tmps) = true then Oper.wp P o a W K Q else E := by
  have hw : Region.wanted o (yielded ops a.tmps) = true := by simp [Region.wanted, hgd]
  rw [if_pos hw]
  unfold Oper.wp execOp
  simp only [ho, resolve, invoke, builtin, Sem.run_bind, Sem.run_pure, Result.andThen_ok, List.map_toArray, List.map_cons, List.map_nil, hd, hs, hr]
  exact h

/-- the copy of a write to its sector -/
def patch (S : List UInt8) (k : Nat) (b : List UInt8) : List UInt8 := S.take (k * 64) ++ b ++ S.drop (k * 64 + 64)
theorem patch_length {S : List UInt8} {k : Nat} {b : List UInt8} (h : k * 64 + 64 ≤ S.length) (hb : b.length = 64) : (patch S k b).length = S.length := by
  simp [patch, hb]; omega
def crashD : List UInt8 → List Wr → List Bool → List UInt8
  | S, [], _ => S
  | S, _ :: _, [] => S
  | S, p :: P, c :: cs => crashD (if c = true then patch S p.at_ p.b else S) P cs
theorem crashD_take : ∀ (P : List Wr) (S : List UInt8) (cs : List Bool) (j : Nat) (hj : j < P.length),
    crashD S (P.take (j + 1)) cs = if cs.getD j false = true then patch (crashD S (P.take j) cs) (P[j]'hj).at_ (P[j]'hj).b else crashD S (P.take j) cs
  | p :: P, S, [], j, hj => by cases j <;> simp [crashD]
  | p :: P, S, c :: cs, 0, hj => by simp [crashD]
  | p :: P, S, c :: cs, j + 1, hj => by
    simp only [List.take_succ_cons, crashD, List.getElem_cons_succ]
    rw [crashD_take P _ cs j (by simpa using hj)]
    simp
theorem crashD_length : ∀ (P : List Wr) (S : List UInt8) (cs : List Bool), (∀ p ∈ P, p.b.length = 64 ∧ p.at_ * 64 + 64 ≤ S.length) → (crashD S P cs).length = S.length
  | [], S, _, _ => by simp [crashD]
  | _ :: _, S, [], _ => rfl
  | p :: P, S, c :: cs, h => by
    have hp := h p (List.mem_cons_self ..)
    have hl : (if c = true then patch S p.at_ p.b else S).length = S.length := by
      split
      · exact patch_length hp.2 hp.1
      · rfl
    rw [crashD, crashD_length P _ cs (fun q hq => by rw [hl]; exact h q (List.mem_cons_of_mem _ hq)), hl]

theorem own_setCells {w : World} {base n g cap o : Nat} {e : TypeId} {xs : List Value} (h : w.ownsRow base e 1 (.slice (some ⟨g, 0, none⟩) n cap) n xs) (vs : List Value) (ho : o + vs.length ≤ n) :
    (w.setCells g o vs).ownsRow base e 1 (.slice (some ⟨g, 0, none⟩) n cap) n (xs.take o ++ vs ++ xs.drop (o + vs.length)) := by
  have hx1 := h.1
  refine ⟨by simp only [List.length_append, List.length_take, List.length_drop]; omega, ?_⟩
  rcases h.2 with ⟨h0, _⟩ | ⟨g', cap', cur, hv, hg, hh, hc, hm, hs, hx⟩
  · cases h0
  · cases hv
    refine .inr ⟨g, cap, setL cur o vs, rfl, hg, heap_setCells vs o w cur hh, hc, hm, by rw [setL_size]; exact hs, ?_⟩
    rw [setL_list _ _ _ (by omega), ← hx]
    have hcl : cur.toList.length = cap * 1 := by rw [Array.length_toList, hs]
    rw [List.append_assoc, List.append_assoc, List.take_append, List.take_append]
    simp only [List.length_take, List.take_take, List.drop_take, hcl]
    rw [Nat.min_eq_left (by omega : o ≤ cap * 1), Nat.min_eq_right (by omega : o ≤ n * 1), Nat.min_eq_left (by omega : o ≤ n * 1)]
    rw [List.take_of_length_le (by omega : vs.length ≤ n * 1 - o)]
    rw [show n * 1 - (o + vs.length) = n * 1 - o - vs.length by omega]
theorem u8s_patch (S : List UInt8) (k : Nat) (b : List UInt8) (hb : b.length = 64) : (u8s S).take (k * 64) ++ u8s b ++ (u8s S).drop (k * 64 + (u8s b).length) = u8s (patch S k b) := by
  simp [u8s, patch, hb]

theorem DiskAt.patch {B db g cap : Nat} {pv : Value} {S : List UInt8} {P : List Wr} {w : World} (h : DiskAt B db (.slice (some ⟨g, 0, none⟩) S.length cap) pv S P w) (k : Nat) (b : List UInt8) (hk : k * 64 + 64 ≤ S.length) (hb : b.length = 64) :
    DiskAt B db (.slice (some ⟨g, 0, none⟩) S.length cap) pv (patch S k b) P (w.setCells g (k * 64) (u8s b)) := by
  obtain ⟨cur, hg⟩ := own_type h.safe (g := g) rfl
  have hdb : db ≠ g := by rintro rfl; have := h.st; rw [hg] at this; cases this
  have hl := patch_length hk hb
  refine ⟨h.hB, ?_, ?_, ?_, fun p hp => ⟨?_, (h.bytes p hp).2.1, (h.bytes p hp).2.2.1, by rw [hl]; exact (h.bytes p hp).2.2.2⟩⟩
  · rw [heap_setCells_other _ _ _ _ hdb]; exact h.st
  · have := own_setCells h.safe (u8s b) (o := k * 64) (by rw [u8s_length, hb]; omega)
    rw [u8s_patch S k b hb] at this
    rw [hl]; exact this
  · refine own_same h.pend fun g' hg' => heap_setCells_other _ _ _ _ ?_
    rintro rfl
    obtain ⟨cur', hc⟩ := own_type h.pend hg'
    rw [hg] at hc; cases hc
  · refine own_same (h.bytes p hp).1 fun g' hg' => heap_setCells_other _ _ _ _ ?_
    rintro rfl
    exact (h.bytes p hp).2.2.1 g' hg' rfl
def FarC (v : Value) (ks : List Nat) : Prop := ∀ a n c, v = .slice (some a) n c → 0 < n → a.block ∉ ks
theorem ReadsC.block {w : World} {v : Value} {l : List Bool} (h : ReadsC w v l) {a : Addr} {n c : Nat} (hv : v = .slice (some a) n c) (hn : 0 < n) : a.block < w.heap.size := by
  rcases h with ⟨h0, _⟩ | ⟨a', c', hv', hcell⟩
  · rw [h0] at hv; cases hv
  · rw [hv'] at hv
    cases hv
    have h := hcell 0 (.bool (l[0]'hn)) (by simp [boolV])
    have hb : (a.add 0).block = a.block := by unfold Addr.add; split <;> rfl
    rw [← hb]
    exact World.block_lt_of_cell? w _ h
theorem ReadsC.chg {w w' : World} {v : Value} {l : List Bool} {ks : List Nat} (h : ReadsC w v l) (hc : Chg ks w w') (hf : FarC v ks) : ReadsC w' v l := by
  rcases h with h | ⟨a, c, hv, hr⟩
  · exact .inl h
  · refine .inr ⟨a, c, hv, fun j u hu => ?_⟩
    have h1 := hr j u hu
    have hb : (a.add j).block = a.block := by unfold Addr.add; split <;> rfl
    have := hc.block (a.add j).block (World.block_lt_of_cell? w _ h1) (by rw [hb]; exact hf a _ _ hv (by have := (List.getElem?_eq_some_iff.1 hu).1; simp only [boolV, List.length_map] at this; omega))
    rw [← h1]
    simp only [World.cell?, this]
theorem chg_cells {b : Nat} {ks : List Nat} (hb : b ∈ ks) (vs : List Value) (o : Nat) (w : World) : Chg ks w (w.setCells b o vs) := by
  have h := setCells_rest (b := b) vs o w
  exact ⟨h.1, h.2.1, h.2.2.1, Nat.le_of_eq h.2.2.2.symm, fun k _ hk => heap_setCells_other vs o w k (fun e => hk (e ▸ hb))⟩

theorem DiskAt.same {B db : Nat} {sv pv : Value} {S : List UInt8} {P : List Wr} {w w' : World} (h : DiskAt B db sv pv S P w) (hh : w'.heap = w.heap) : DiskAt B db sv pv S P w' :=
  ⟨h.hB, by rw [hh]; exact h.st, own_same h.safe fun g _ => by rw [hh], own_same h.pend fun g _ => by rw [hh], fun p hp => ⟨own_same (h.bytes p hp).1 fun g _ => by rw [hh], (h.bytes p hp).2⟩⟩
theorem sizeByte : (Try.prog.info? 5).map (·.size) = some 1 := by kernel_rfl
/-- the copy of a write to its sector -/
theorem copy_run {B db g cap : Nat} {pv : Value} {S : List UInt8} {P : List Wr} {W : World} (h : DiskAt B db (.slice (some ⟨g, 0, none⟩) S.length cap) pv S P W) (p : Wr) (hp : p ∈ P) (ty : TypeId) (c' : Nat) :
    (Builtin.copy_ #[23, 23] ty #[.slice (some ⟨g, p.at_ * 64, none⟩) 64 c', p.v]).run Try.prog W = .ok (.int .i64 64) (W.setCells g (p.at_ * 64) (u8s p.b)) := by
  obtain ⟨hown, hl, _, hk⟩ := h.bytes p hp
  obtain ⟨gp, capp, hv, _, _, _, hcell, _⟩ := own_reads hown (by omega)
  have hlt : (u8s p.b).length = 64 := by rw [u8s_length, hl]
  rw [hv, hl]
  have := run_copy_cells (P := Try.prog) W 23 23 ty 5 g (p.at_ * 64) 64 c' ⟨gp, 0, none⟩ 64 capp (u8s p.b) Try.underlying23 sizeByte (by rw [hlt]; rfl)
    (fun j v hj => by
      have hj' : j < 64 := by have := (List.getElem?_eq_some_iff.1 hj).1; omega
      rw [Addr.add_lit, Nat.zero_add, hcell j (by omega)]; exact hj)
    (fun j hj => by
      obtain ⟨g', cap', hv', _, _, _, hc', _⟩ := own_reads h.safe (by omega)
      cases hv'
      rw [hc' _ (by omega)]
      rw [List.getElem?_eq_getElem (by rw [u8s_length]; omega)]
      rfl)
    (fun j _ => by
      obtain ⟨g', cap', hv', _, _, _, _, hf', _⟩ := own_reads h.safe (by omega)
      cases hv'
      exact hf' _)
    (u8s_one p.b)
  rw [this, hlt]; rfl

def CrashPost (B db : Nat) (sv : Value) (S : List UInt8) (P : List Wr) (cs : List Bool) (w : World) (e : Ending) (w' : World) : Prop :=
  e = .returned (.tuple #[]) ∧ DiskAt B db sv (.slice none 0 0) (crashD S P cs) [] w' ∧ Chg (db :: sv.ownBlock.toList) w w'
/-- what holds between two rounds -/
def CrInv (B db : Nat) (sv pv : Value) (S : List UInt8) (P : List Wr) (cs : List Bool) (w : World) (j : Nat) (wr : World) : Prop :=
  DiskAt B db sv pv (crashD S (P.take j) cs) P wr ∧ Chg (db :: sv.ownBlock.toList) w wr

set_option maxRecDepth 100000 in
theorem crash_any (B db n : Nat) (sv pv : Value) (S : List UInt8) (P : List Wr) (v : Value) (cs : List Bool) (w : World) (hf : DiskAt B db sv pv S P w) (hS : S.length = n * 64) (hn : n ≤ 4096) (hn0 : 0 < n) (hP : P.length ≤ 16384) (hv : ReadsC w v cs) (hfar : FarC v (db :: sv.ownBlock.toList)) :
    Calls Try.prog 11 #[.pointer (some ⟨db, 0, none⟩), v] w (CrashPost B db sv S P cs w) := by
  obtain ⟨pA, pc, rfl⟩ := own_slice hf.pend
  obtain ⟨g, cap, rfl, hg, hlt, hcap, _⟩ := own_reads hf.safe (by omega)
  obtain ⟨Av, cv, rfl⟩ := hv.slice
  have hcm : cap ≤ 9223372036854775807 := by
    rcases hf.safe.2 with ⟨h0, _⟩ | ⟨g', cap', cur, hv, _, _, _, hm, _⟩
    · cases h0
    · cases hv; simpa only [maxLen] using hm
  have hc1 : w.cell? ⟨db, 1, none⟩ = some (.slice pA P.length pc) := by rw [cell_of_row w db 1 _ _ _ hf.st]; rfl
  have HF := Lib.hid hf
  have HV := Lib.hid hv
  have HFar := Lib.hid hfar
  have HS := Lib.hid hS
  have HCap := Lib.hid hcap
  have HLen : Hid (∀ j, (crashD S (P.take j) cs).length = S.length) := fun j => crashD_length _ _ _ fun p hp => ⟨(hf.bytes p (List.mem_of_mem_take hp)).2.1, (hf.bytes p (List.mem_of_mem_take hp)).2.2.2⟩
  have hPm : (P.length : Int) ≤ 16384 := by omega
  have H0 : Hid (CrInv B db (.slice (some ⟨g, 0, none⟩) S.length cap) (.slice pA P.length pc) S P cs w 0 w) := ⟨by rw [List.take_zero, crashD]; exact hf, Chg.refl _ _⟩
  clear hf hv hfar hS hP hcap
  go_enter Try.func11, Try.ntmps11
  go_wp2_with fail
  go_loopw [13] (fun i wr => ∃ (j : Nat), i = .int .i64 j ∧ j ≤ P.length ∧ Hid (CrInv B db (.slice (some ⟨g, 0, none⟩) S.length cap) (.slice pA P.length pc) S P cs w j wr)) (fun i _ => P.length - (intOf i).toNat)
  case atStart => exact ⟨0, rfl, Nat.zero_le _, H0⟩
  case round =>
    obtain ⟨j, rfl, hjk, HJ⟩ := hrel
    obtain ⟨wL, rfl⟩ : ∃ wo : World, wo = wr := ⟨_, rfl⟩
    clear H0
    by_cases hj : j < P.length
    · have hj' : (j : Int) < (P.length : Int) := by omega
      have hj0 : (0 : Int) ≤ (j : Int) := by omega
      obtain ⟨hD, hC⟩ := HJ.out
      obtain ⟨pg, pcap, hvv, _, hpl⟩ := hD.pend.form (by omega)
      cases hvv
      have e0 := hD.pend.cellAt (j * 2) (by omega)
      have e1 := hD.pend.cellAt (j * 2 + 1) (by omega)
      have c0 := cellsW_at hj 0 (by omega)
      rw [Nat.add_zero] at c0
      rw [c0] at e0
      rw [cellsW_at hj 1 (by omega)] at e1
      obtain ⟨hpb, hpl64, _, hpk⟩ := hD.bytes _ (List.getElem_mem hj)
      have htake := crashD_take P S cs j hj
      have hmem : P[j] ∈ P := List.getElem_mem hj
      have hvj := (HV.out.chg hC HFar.out)
      have hSl := HLen.out j
      generalize P[j]'hj = p at *
      obtain ⟨pat, pb, pv⟩ := p
      simp only [] at e0 e1 hpb htake hpl64 hpk
      obtain ⟨Ap, cp, rfl⟩ := own_slice hpb
      have HPL := Lib.hid hpl64
      have HSl := Lib.hid hSl
      clear hpl64 hSl
      obtain ⟨O, hO⟩ : ∃ O, O = Obj.cells #[Value.int .i64 pat, .slice Ap pb.length cp] 59 := ⟨_, rfl⟩
      have hb1 : Below wL.heap.size wL (wL.alloc O) := (Below.refl _ _).alloc (Nat.le_refl _) _
      have hD1 := hD.below hb1
      have hC1 : Chg (db :: (Value.ownBlock (.slice (some ⟨g, 0, none⟩) S.length cap)).toList) w (wL.alloc O) := hC.trans (ks' := []) (Chg.of_below hb1) (fun x hx => by cases hx)
      have n0 : (wL.alloc O).cell? ⟨wL.heap.size, 0, none⟩ = some (.int .i64 pat) := by rw [hO, cell_of_row _ _ 0 _ _ (0, 0) (heap_alloc_new wL _)]; rfl
      have n1 : (wL.alloc O).cell? ⟨wL.heap.size, 1, none⟩ = some (.slice Ap pb.length cp) := by rw [hO, cell_of_row _ _ 1 _ _ (0, 0) (heap_alloc_new wL _)]; rfl
      have m0 : (wL.alloc O).drew.cell? ⟨wL.heap.size, 0, none⟩ = some (.int .i64 pat) := n0
      have m1 : (wL.alloc O).drew.cell? ⟨wL.heap.size, 1, none⟩ = some (.slice Ap pb.length cp) := n1
      by_cases hcj : j < cs.length
      · have hcj' : (j : Int) < (cs.length : Int) := by omega
        obtain ⟨bv, ov, cv', hvv, hbc⟩ := (hvj.chg (Chg.of_below (ks := []) hb1) (fun a n c _ _ hx => by cases hx)).at_ hcj
        cases hvv
        rw [List.getD_eq_getElem?_getD, List.getElem?_eq_getElem hcj, Option.getD_some] at htake
        generalize cs[j]'hcj = cb at *
        cases cb with
        | true =>
          have HCR : Hid (∀ (ty : TypeId) (c' : Nat), (Builtin.copy_ #[23, 23] ty #[.slice (some ⟨g, pat * 64, none⟩) 64 c', .slice Ap pb.length cp]).run Try.prog (wL.alloc O).drew = .ok (.int .i64 64) ((wL.alloc O).drew.setCells g (pat * 64) (u8s pb))) := fun ty c' => by
            have hD2 : DiskAt B db (.slice (some ⟨g, 0, none⟩) (crashD S (P.take j) cs).length cap) (.slice (some ⟨pg, 0, none⟩) P.length pc) (crashD S (P.take j) cs) P (wL.alloc O).drew := by rw [HSl.out]; exact hD1.same rfl
            exact copy_run hD2 _ hmem ty c'
          have HN : Hid (CrInv B db (.slice (some ⟨g, 0, none⟩) S.length cap) (.slice (some ⟨pg, 0, none⟩) P.length pc) S P cs w (j + 1) ((wL.alloc O).drew.setCells g (pat * 64) (u8s pb))) := by
            refine ⟨?_, (hC1.drew).trans (ks' := [g]) (chg_cells (List.mem_cons_self ..) _ _ _) (fun x hx _ => by simp at hx; subst hx; simp [Value.ownBlock])⟩
            rw [htake, if_pos rfl]
            have hD2 : DiskAt B db (.slice (some ⟨g, 0, none⟩) (crashD S (P.take j) cs).length cap) (.slice (some ⟨pg, 0, none⟩) P.length pc) (crashD S (P.take j) cs) P (wL.alloc O).drew := by rw [HSl.out]; exact hD1.same rfl
            have := hD2.patch pat pb hpk HPL.out
            rw [HSl.out] at this
            exact this
          have HSec := Lib.hid (fun (W : World) (hW : W.heap = (wL.alloc O).heap) => sector_any db g n pat cap (.slice (some ⟨pg, 0, none⟩) P.length pc) W (by rw [hW]; have := hD1.st; rw [HS.out] at this; exact this) (by have := HS.out; have := HSl.out; omega) (by have := HCap.out; have := HS.out; omega) hcm)
          rw [hO] at HCR HN HSec n0 n1 m0 m1 hbc
          clear hD hC hD1 hC1 hb1 htake c0 hpb hvj hmem hO HJ
          go_wp2_with fail
          go_region_law (first | (go_simp; go_at_call 24; refine (HSec.out _ ?_).mono ?_; (rfl); rintro e w' ⟨⟨c2, rfl⟩, rfl⟩) | (refine step_copy_run (by rfl) (by rfl) (by rfl) (by rfl) (HCR.out _ _) ?_))
          all_goals
            go_wp2_with fail
            go_roundw
            case rel => exact ⟨j + 1, by go_num, by omega, HN⟩
            case measure => simp [intOf]; omega
        | false =>
          have HN : Hid (CrInv B db (.slice (some ⟨g, 0, none⟩) S.length cap) (.slice (some ⟨pg, 0, none⟩) P.length pc) S P cs w (j + 1) (wL.alloc O)) := ⟨by rw [htake]; exact hD1, hC1⟩
          rw [hO] at HN n0 n1 hbc
          clear hD hC hD1 hC1 hb1 htake c0 hpb hvj hmem m0 m1 hO HJ
          go_wp2_with fail
          go_roundw
          case rel => exact ⟨j + 1, by go_num, by omega, HN⟩
          case measure => simp [intOf]; omega
      · have hcj' : ¬ (j : Int) < (cs.length : Int) := by omega
        have hcd : decide ((j : Int) < (cs.length : Int)) = false := decide_eq_false hcj'
        rw [List.getD_eq_getElem?_getD, List.getElem?_eq_none (by omega), Option.getD_none] at htake
        have HN : Hid (CrInv B db (.slice (some ⟨g, 0, none⟩) S.length cap) (.slice (some ⟨pg, 0, none⟩) P.length pc) S P cs w (j + 1) (wL.alloc O)) := ⟨by rw [htake]; exact hD1, hC1⟩
        rw [hO] at HN n0 n1
        clear hD hC hD1 hC1 hb1 htake c0 hpb hvj hmem m0 m1 hO HJ
        go_wp2_with fail
        go_roundw
        case rel => exact ⟨j + 1, by go_num, by omega, HN⟩
        case measure => simp [intOf]; omega
    · obtain rfl : j = P.length := by omega
      have hst := HJ.out.1.st
      have hc1' : wL.cell? ⟨db, 1, none⟩ = some (.slice pA P.length pc) := by rw [cell_of_row wL db 1 _ _ _ hst]; rfl
      have hfz := frozen_of_block hst 1
      have HI := Lib.hid HJ.out
      clear hst HJ
      go_wp2_with fail
      go_end0
      refine ⟨rfl, ?_, HI.out.2.trans (ks' := [db]) (Chg.setCell _ (List.mem_cons_self ..)) (fun x hx _ => by simp at hx; subst hx; exact List.mem_cons_self ..)⟩
      have hD := HI.out.1
      rw [List.take_length] at hD
      have hdg : ∀ {base e size n v xs}, wL.ownsRow base e size v n xs → e ≠ 53 → (wL.setCell ⟨db, 1, none⟩ (.slice none 0 0)).ownsRow base e size v n xs := fun h he =>
        ownsRow_setCell_other h (own_ne h fun cur h2 => by rw [hD.st] at h2; cases h2; exact he rfl) _
      refine ⟨hD.hB, ?_, hdg hD.safe (by decide), World.ownsRow_nil _ _ _ _, fun p hp => by cases hp⟩
      have := Own.heap_setCell_same hD.st 1 (.slice none 0 0)
      simpa [HLen.out] using this
end Go.Proofs.Ytjlbamjebidhgaa
