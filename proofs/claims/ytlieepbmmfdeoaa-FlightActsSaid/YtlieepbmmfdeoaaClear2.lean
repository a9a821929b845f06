/- slices.DeleteFunc, of a slice that the call owns; Clear. -/
import Derived.Test.YtlieepbmmfdeoaaClear
namespace Go.Proofs.Ytlieepbmmfdeoaa
open Go.RowKit Own

theorem run_clear_many {P : Program} (w : World) (t e ty : TypeId) (x y z : Value) (ht : P.underlying t = some (.slice e)) (hv : ∀ w, (zeroValue e).run P w = .ok (.agg #[x, y, z]) w) (hx : x.oneCell' = true) (hy : y.oneCell' = true) (hz : z.oneCell' = true) (b o n c : Nat)
    (hc : ∀ j, j < (n + 1) * 3 → (w.cell? ⟨b, o + j, none⟩).isSome = true) (hf : ∀ j, w.frozen? ⟨b, o + j, none⟩ = false) :
    ∃ zs : List Value, (Builtin.clear_ #[t] ty #[.slice (some ⟨b, o, none⟩) (n + 1) c]).run P w = .ok (.tuple #[]) (w.setCells b o zs) ∧ zs.length = (n + 1) * 3 := by
  have hcs : (Value.agg #[x, y, z]).cells = #[x, y, z] := by simp [Value.cells]
  have hsz : (Builtin.zeroCells (Value.agg #[x, y, z]).cells (n + 1)).size = (n + 1) * 3 := by rw [size_zeroCells, hcs]; rfl
  have hst := run_storeCells_cells (P := P) b o (Builtin.zeroCells (Value.agg #[x, y, z]).cells (n + 1)).toList 0 w (fun j hj => by
      rw [Nat.add_zero]; exact hc j (by simpa [hsz] using hj)) (fun j _ => by rw [Nat.add_zero]; exact hf j) (by
    intro v hv'
    rw [hcs] at hv'
    simp only [Builtin.zeroCells, Array.toList_map, List.mem_map] at hv'
    obtain ⟨i, _, rfl⟩ := hv'
    have h3 : i % 3 < 3 := Nat.mod_lt _ (by omega)
    show (#[x, y, z][i % 3]!).oneCell' = true
    generalize i % 3 = r at h3
    match r, h3 with
    | 0, _ => exact hx
    | 1, _ => exact hy
    | 2, _ => exact hz)
  rw [Nat.add_zero] at hst
  refine ⟨_, ?_, by rw [Array.length_toList]; exact hsz⟩
  simp [Builtin.clear_, run_underlying ht, hv, hst]

/-- the row after one store -/
theorem row_store {w : World} {B g cap : Nat} {M : List (Msg × Value)} (h : w.ownsRow B 55 3 (.slice (some ⟨g, 0, none⟩) M.length cap) M.length (cellsOf M)) (i : Nat) (hi : i < M.length) (p : Msg × Value) :
    (w.setCells g (i * 3) [.int .i64 p.1.fr, .int .i64 p.1.to, p.2]).ownsRow B 55 3 (.slice (some ⟨g, 0, none⟩) M.length cap) M.length (cellsOf (M.set i p)) := by
  rcases h.2 with ⟨h0, _⟩ | ⟨g', cap', cur, hv, hg, hh, hc, hm, hs, hx⟩
  · cases h0
  · cases hv
    refine ⟨by rw [cellsOf_length, List.length_set], .inr ⟨g, cap, setL cur (i * 3) [.int .i64 p.1.fr, .int .i64 p.1.to, p.2], rfl, hg, heap_setCells _ _ _ _ hh, hc, hm, by rw [setL_size]; exact hs, ?_⟩⟩
    rw [setL_list _ _ _ (by simp; omega)]
    have e1 : cellsOf (M.set i p) = cellsOf (M.take i) ++ [.int .i64 p.1.fr, .int .i64 p.1.to, p.2] ++ cellsOf (M.drop (i + 1)) := by
      rw [List.set_eq_take_append_cons_drop, if_pos hi, cellsOf_append, cellsOf_cons]; simp
    rw [e1, cellsOf_take, cellsOf_drop, ← hx, List.take_take, Nat.min_eq_left (by omega), List.take_append, List.take_of_length_le (by simp; omega), List.append_cancel_left_eq]
    simp only [List.length_append, List.length_take, Array.length_toList, List.length_cons, List.length_nil]
    rw [Nat.min_eq_left (by omega), List.drop_take]
    have hq : i * 3 + (0 + 1 + 1 + 1) = (i + 1) * 3 := by omega
    rw [hq]

def keepsOff (node : Int) (p : Msg × Value) : Bool := !goesTo node p
/-- the row when j elements are looked at and i of them stay -/
structure DelSt (B nb g cap : Nat) (node : Int) (L : List (Msg × Value)) (w0 : World) (i j : Nat) (w : World) : Prop where
  chg : Chg [g] w0 w
  nd : w.cell? ⟨nb, 0, none⟩ = some (.int .i64 node)
  hij : i ≤ j
  hj : j ≤ L.length
  hc : L.length ≤ cap
  hi : i = ((L.take j).filter (keepsOff node)).length
  row : ∃ M : List (Msg × Value), M.length = L.length ∧ w.ownsRow B 55 3 (.slice (some ⟨g, 0, none⟩) L.length cap) L.length (cellsOf M) ∧ M.take i = (L.take j).filter (keepsOff node) ∧ M.drop j = L.drop j

theorem DelSt.skip {B nb g cap : Nat} {node : Int} {L : List (Msg × Value)} {w0 w w' : World} {i j : Nat} (h : DelSt B nb g cap node L w0 i j w) (hj : j < L.length) (hb : Below w.heap.size w w') (hg : goesTo node (L[j]'hj) = true) : DelSt B nb g cap node L w0 i (j + 1) w' := by
  obtain ⟨M, h1, h2, h3, h4⟩ := h.row
  have e : (L.take (j + 1)).filter (keepsOff node) = (L.take j).filter (keepsOff node) := by
    rw [List.take_succ_eq_append_getElem hj, List.filter_append]
    simp [keepsOff, hg]
  refine ⟨h.chg.trans (ks' := []) (Chg.of_below hb) (fun x hx => by cases hx), (hb.cell (World.block_lt_of_cell? w _ h.nd)).trans h.nd, Nat.le_succ_of_le h.hij, hj, h.hc, by rw [e]; exact h.hi, M, h1, own_below h2 hb, by rw [e]; exact h3, ?_⟩
  rw [← List.drop_drop, ← List.drop_drop, h4]
theorem DelSt.keep {B nb g cap : Nat} {node : Int} {L : List (Msg × Value)} {w0 w w' : World} {i j : Nat} (h : DelSt B nb g cap node L w0 i j w) (hj : j < L.length) (hb : Below w.heap.size w w') (hg : goesTo node (L[j]'hj) = false) (hnb : nb ≠ g) :
    DelSt B nb g cap node L w0 (i + 1) (j + 1) (w'.setCells g (i * 3) [.int .i64 (L[j]'hj).1.fr, .int .i64 (L[j]'hj).1.to, (L[j]'hj).2]) := by
  obtain ⟨M, h1, h2, h3, h4⟩ := h.row
  have hij := h.hij
  have e : (L.take (j + 1)).filter (keepsOff node) = (L.take j).filter (keepsOff node) ++ [L[j]'hj] := by
    rw [List.take_succ_eq_append_getElem hj, List.filter_append]
    simp [keepsOff, hg]
  have hr := own_below h2 hb
  rw [← h1] at hr
  have hr2 := row_store hr i (by omega) (L[j]'hj)
  refine ⟨(h.chg.trans (ks' := []) (Chg.of_below hb) (fun x hx => by cases hx)).trans (chg_setCells _ _ _) (fun x hx _ => hx), ?_, by omega, hj, h.hc, by rw [e, List.length_append, ← h.hi]; rfl, M.set i (L[j]'hj), by rw [List.length_set, h1], by rw [← h1]; exact hr2, ?_, ?_⟩
  · have h5 := (hb.cell (World.block_lt_of_cell? w _ h.nd)).trans h.nd
    rw [← h5]
    unfold World.cell?
    rw [heap_setCells_other _ _ _ nb hnb]
  · rw [e, ← h3, List.take_set, List.take_succ_eq_append_getElem (show i < M.length by omega), List.set_append_right _ _ (by rw [List.length_take]; omega)]
    rw [List.length_take, Nat.min_eq_left (by omega), Nat.sub_self]
    rfl
  · rw [List.drop_set_of_lt (by omega), ← List.drop_drop, ← List.drop_drop, h4]
theorem DelSt.at {B nb g cap : Nat} {node : Int} {L : List (Msg × Value)} {w0 w : World} {i j : Nat} (h : DelSt B nb g cap node L w0 i j w) (hj : j < L.length) :
    w.cell? ⟨g, j * 3, none⟩ = some (.int .i64 (L[j]'hj).1.fr) ∧ w.cell? ⟨g, j * 3 + 1, none⟩ = some (.int .i64 (L[j]'hj).1.to) ∧ w.cell? ⟨g, j * 3 + 2, none⟩ = some (L[j]'hj).2 := by
  obtain ⟨M, h1, h2, h3, h4⟩ := h.row
  have hm : j < M.length := by omega
  have hE : M[j]'hm = L[j]'hj := by
    have := congrArg (fun l => l[0]?) h4
    simp only [List.getElem?_drop, Nat.add_zero] at this
    rw [List.getElem?_eq_getElem hm, List.getElem?_eq_getElem hj] at this
    exact Option.some.inj this
  rw [← h1] at h2
  have := row_cells h2 j hm
  rw [hE] at this
  exact this
theorem DelSt.spot {B nb g cap : Nat} {node : Int} {L : List (Msg × Value)} {w0 w w' : World} {i j : Nat} (h : DelSt B nb g cap node L w0 i j w) (hi : i < L.length) (hb : Below w.heap.size w w') :
    ∃ x y z, w'.cell? ⟨g, i * 3, none⟩ = some x ∧ w'.cell? ⟨g, i * 3 + 1, none⟩ = some y ∧ w'.cell? ⟨g, i * 3 + 2, none⟩ = some z ∧ (∀ o, w'.frozen? ⟨g, o, none⟩ = false) := by
  obtain ⟨M, h1, h2, h3, h4⟩ := h.row
  have h5 := own_below h2 hb
  obtain ⟨cur, hc⟩ := own_type h5 rfl
  rw [← h1] at h5
  have h6 := row_cells h5 i (by omega)
  exact ⟨_, _, _, h6.1, h6.2.1, h6.2.2, fun o => frozen_of_block hc o⟩

def DfPost (B g cap : Nat) (node : Int) (L : List (Msg × Value)) (w : World) (e : Ending) (w' : World) : Prop :=
  ∃ k, e = .returned (.slice (some ⟨g, 0, none⟩) k cap) ∧ k = (L.filter (keepsOff node)).length ∧ k ≤ L.length ∧ w'.ownsRow B 55 3 (.slice (some ⟨g, 0, none⟩) k cap) k (cellsOf (L.filter (keepsOff node))) ∧ Chg [g] w w'
theorem DelSt.last {B nb g cap : Nat} {node : Int} {L : List (Msg × Value)} {w0 w : World} {i : Nat} (h : DelSt B nb g cap node L w0 i L.length w) (hlt : i < L.length) :
    ∃ zs w2, (∀ ty, (Builtin.clear_ #[47] ty #[.slice (some ⟨g, i * 3, none⟩) (L.length - i) (cap - i)]).run Try.prog w = .ok (.tuple #[]) (w.setCells g (i * 3) zs)) ∧ w2 = w.setCells g (i * 3) zs ∧ DfPost B g cap node L w0 (.returned (.slice (some ⟨g, 0, none⟩) i cap)) w2 := by
  obtain ⟨M, h1, h2, h3, h4⟩ := h.row
  have hi := h.hi
  rw [List.take_length] at h3 hi
  rcases h2.2 with ⟨h0, _⟩ | ⟨g', cap', cur, hv, hg, hh, hc, hm, hs, hx⟩
  · cases h0
  · cases hv
    have hzv : ∀ w, (zeroValue 55).run Try.prog w = .ok (.agg #[.int .i64 0, .int .i64 0, .slice none 0 0]) w := fun w => by
      obtain ⟨i0, hi, hzz⟩ := Option.map_eq_some_iff.1 infoMsg
      simp only [Prod.mk.injEq] at hzz
      simp [zeroValue, typeInfo, hi, hzz.1]
    obtain ⟨m, hm1⟩ : ∃ m, L.length - i = m + 1 := ⟨L.length - i - 1, by omega⟩
    have hcl := fun ty => run_clear_many (P := Try.prog) w 47 55 ty _ _ _ Try.underlying47 hzv rfl rfl rfl g (i * 3) m (cap - i) (fun j hj => by
      rw [cell_of_row w g _ _ _ (0, 0) hh]
      simp; omega) (fun j => frozen_of_block hh _)
    obtain ⟨zs, hzs, hlen⟩ := hcl 0
    refine ⟨zs, _, fun ty => ?_, rfl, i, rfl, hi, Nat.le_of_lt hlt, ?_, h.chg.trans (chg_setCells _ _ _) (fun x hx _ => hx)⟩
    · rw [hm1]
      exact hzs
    · refine ⟨by rw [cellsOf_length, ← hi], .inr ⟨g, cap, setL cur (i * 3) zs, rfl, hg, heap_setCells _ _ _ _ hh, by omega, hm, by rw [setL_size]; exact hs, ?_⟩⟩
      rw [setL_list _ _ _ (by rw [hlen]; omega), List.append_assoc, List.take_append_of_le_length (by rw [List.length_take, Array.length_toList]; omega), List.take_take, Nat.min_self]
      rw [← h3, cellsOf_take, ← hx, List.take_take, Nat.min_eq_left (by omega)]

set_option maxHeartbeats 1600000 in
set_option maxRecDepth 100000 in
theorem delf_any (B nb g cap : Nat) (node : Int) (L : List (Msg × Value)) (w : World) (hO : w.ownsRow B 55 3 (.slice (some ⟨g, 0, none⟩) L.length cap) L.length (cellsOf L)) (hN : w.cell? ⟨nb, 0, none⟩ = some (.int .i64 node)) (hM : L.length ≤ 16384)
    (hs : ∀ p ∈ L, ∃ A n c, p.2 = .slice A n c) (hnb : nb ≠ g) :
    Calls Try.prog 27 #[.slice (some ⟨g, 0, none⟩) L.length cap, nodeFn nb] w (DfPost B g cap node L w) := by
  have HI := Lib.hid (idx_any B nb g cap node L w hO hN hM hs)
  have HS := Lib.hid hs
  have HNB := Lib.hid hnb
  have hM' : (L.length : Int) ≤ 16384 := by omega
  have hcap : L.length ≤ cap := by
    rcases hO.2 with ⟨h0, _⟩ | ⟨g', cap', cur, hv, hg, hh, hc, hm, hs, hx⟩
    · cases h0
    · cases hv; exact hc
  have hcap' : (L.length : Int) ≤ (cap : Int) := by omega
  by_cases hk : L.findIdx (goesTo node) < L.length
  · have hI : Hid (∀ j : Nat, idxI node L = j → j = L.findIdx (goesTo node)) := fun j hj => by
      unfold idxI at hj; rw [if_pos hk] at hj; omega
    obtain ⟨k, hke⟩ : ∃ k, L.findIdx (goesTo node) = k := ⟨_, rfl⟩
    have hik : idxI node L = k := by unfold idxI; rw [if_pos hk, hke]
    have HG : goesTo node (L[k]'(hke ▸ hk)) = true := by subst hke; exact List.findIdx_getElem
    have HB : ∀ p ∈ L.take k, keepsOff node p = true := by
      intro p hp
      obtain ⟨q, hq, rfl⟩ := List.mem_iff_getElem.1 hp
      rw [List.length_take] at hq
      rw [List.getElem_take]
      have hq2 : goesTo node (L[q]'(by omega)) = false := List.not_of_lt_findIdx (by omega)
      simp only [keepsOff, hq2]
      rfl
    rw [hke] at hk
    have hST : ∀ w', Below w.heap.size w w' → DelSt B nb g cap node L w k (k + 1) w' := by
      intro w' hb
      have e : (L.take (k + 1)).filter (keepsOff node) = L.take k := by
        rw [List.take_succ_eq_append_getElem hk, List.filter_append, List.filter_eq_self.2 HB]
        simp [keepsOff, HG]
      refine ⟨Chg.of_below hb, (hb.cell (World.block_lt_of_cell? w _ hN)).trans hN, Nat.le_succ _, hk, hcap, by rw [e, List.length_take]; omega, L, rfl, own_below hO hb, e.symm, rfl⟩
    rw [hik] at HI
    have HST := Lib.hid hST
    have hkk : ((k : Int) == -1) = false := beq_eq_false_iff_ne.2 (by omega)
    clear hO hN hM hs hI hke hik HG HB hST hnb
    unfold nodeFn at *
    go_enter Try.func27, Try.ntmps27
    go_wp2_with (go_at_call 29; refine HI.out.mono ?_; rintro e w1 ⟨rfl, hb1⟩)
    go_loopw [5, 6] (fun i j wr => ∃ a b : Nat, i = .int .i64 a ∧ j = .int .i64 b ∧ a < b ∧ b ≤ L.length ∧ Hid (DelSt B nb g cap node L w a b wr)) (fun _ j _ => L.length - (intOf j).toNat)
    case atStart => exact ⟨k, k + 1, rfl, by go_num, Nat.lt_succ_self k, hk, HST.out _ hb1⟩
    case round =>
      obtain ⟨a, b, rfl, rfl, hab, hbL, HJ⟩ := hrel
      obtain ⟨wL, rfl⟩ : ∃ wo : World, wo = wr := ⟨_, rfl⟩
      by_cases hb : b < L.length
      · have hb' : (b : Int) < (L.length : Int) := by omega
        obtain ⟨e0, e1, e2⟩ := HJ.out.at hb
        obtain ⟨A, n, c, hv⟩ := HS.out _ (List.getElem_mem hb)
        have hsk : ∀ w', Below wL.heap.size wL w' → goesTo node (L[b]'hb) = true → DelSt B nb g cap node L w a (b + 1) w' := fun w' h1 h2 => HJ.out.skip hb h1 h2
        have hkp : ∀ w', Below wL.heap.size wL w' → goesTo node (L[b]'hb) = false → DelSt B nb g cap node L w (a + 1) (b + 1) (w'.setCells g (a * 3) [.int .i64 (L[b]'hb).1.fr, .int .i64 (L[b]'hb).1.to, (L[b]'hb).2]) := fun w' h1 h2 => HJ.out.keep hb h1 h2 HNB.out
        have HC : Hid (∀ w', Below wL.heap.size wL w' → Calls Try.prog 28 #[.agg #[.int .i64 (L[b]'hb).1.fr, .int .i64 (L[b]'hb).1.to, .slice A n c], .pointer (some ⟨nb, 0, none⟩)] w' fun e w'' => e = .returned (.bool (goesTo node (L[b]'hb))) ∧ Below w'.heap.size w' w'') := fun w' h1 =>
          clo_any nb node (L[b]'hb).1.fr (L[b]'hb).1.to _ A n c w' rfl ((h1.cell (World.block_lt_of_cell? wL _ HJ.out.nd)).trans HJ.out.nd)
        rw [hv] at e2 hkp
        have HSP := Lib.hid (fun (w' : World) (hx : Below wL.heap.size wL w') => HJ.out.spot (show a < L.length by omega) hx)
        obtain ⟨O, hO⟩ : ∃ O, O = Obj.cells #[Value.int .i64 (L[b]'hb).1.fr, .int .i64 (L[b]'hb).1.to, .slice A n c] 55 := ⟨_, rfl⟩
        have n0 : (wL.alloc O).cell? ⟨wL.heap.size, 0, none⟩ = some (.int .i64 (L[b]'hb).1.fr) := by rw [hO, cell_of_row _ _ 0 _ _ (0, 0) (heap_alloc_new wL _)]; rfl
        have n1 : (wL.alloc O).cell? ⟨wL.heap.size, 1, none⟩ = some (.int .i64 (L[b]'hb).1.to) := by rw [hO, cell_of_row _ _ 1 _ _ (0, 0) (heap_alloc_new wL _)]; rfl
        have n2 : (wL.alloc O).cell? ⟨wL.heap.size, 2, none⟩ = some (.slice A n c) := by rw [hO, cell_of_row _ _ 2 _ _ (0, 0) (heap_alloc_new wL _)]; rfl
        have hbO : Below wL.heap.size wL (wL.alloc O) := (Below.refl _ _).alloc (Nat.le_refl _) _
        have hszO : wL.heap.size < (wL.alloc O).heap.size := by simp
        clear hv
        generalize L[b]'hb = p at *
        obtain ⟨⟨fr, to, bs⟩, v⟩ := p
        simp only [] at e0 e1 HC hkp hO n0 n1
        generalize goesTo node (⟨fr, to, bs⟩, v) = q at *
        have HSK := Lib.hid hsk
        have HKP := Lib.hid hkp
        clear hsk hkp
        have ha' : (a : Int) < (L.length : Int) := by omega
        cases q with
        | true =>
          go_wp2_with (go_at_call 28; rw [← hO]; refine (HC.out _ hbO).mono ?_; rintro e w2 ⟨rfl, hb2⟩)
          have HN := Lib.hid (HSK.out w2 (hbO.trans (hb2.mono (Nat.le_of_lt hszO))) trivial)
          go_roundw
          case rel => exact ⟨a, b + 1, rfl, by go_num, by omega, by omega, HN⟩
          case measure => simp [intOf]; omega
        | false =>
          go_wp2_with (go_at_call 28; rw [← hO]; refine (HC.out _ hbO).mono ?_; rintro e w2 ⟨rfl, hb2⟩; have m0 := (hb2.cell (p := ⟨wL.heap.size, 0, none⟩) hszO).trans n0; have m1 := (hb2.cell (p := ⟨wL.heap.size, 1, none⟩) hszO).trans n1; have m2 := (hb2.cell (p := ⟨wL.heap.size, 2, none⟩) hszO).trans n2; have hbx := hbO.trans (hb2.mono (Nat.le_of_lt hszO)); obtain ⟨y0, y1, y2, s0, s1, s2, sf⟩ := HSP.out w2 hbx)
          have HN := Lib.hid (HKP.out w2 hbx trivial)
          go_roundw
          case rel => exact ⟨a + 1, b + 1, by go_num, by go_num, by omega, by omega, HN⟩
          case measure => simp [intOf]; omega
      · obtain rfl : b = L.length := by omega
        obtain ⟨zs, w2, hcl, hw2, hp⟩ := HJ.out.last hab
        have HP := Lib.hid hp
        have HW := Lib.hid hw2
        have x1 : ¬ cap = a := by omega
        have x2 : a ≤ cap := by omega
        have x3 : a ≤ L.length := by omega
        have x4 : (a : Int) ≤ (cap : Int) := by omega
        have x5 : (a : Int) ≤ (L.length : Int) := by omega
        clear hp hw2
        go_wp2_with fail
        go_ret
        rw [← HW.out]
        exact HP.out
  · have hI : idxI node L = -1 := by unfold idxI; rw [if_neg hk]
    rw [hI] at HI
    have HALL : L.filter (keepsOff node) = L := by
      refine List.filter_eq_self.2 fun p hp => ?_
      obtain ⟨q, hq, rfl⟩ := List.mem_iff_getElem.1 hp
      have hq2 : goesTo node (L[q]'hq) = false := List.not_of_lt_findIdx (by omega)
      simp only [keepsOff, hq2]
      rfl
    have HP : ∀ w', Below w.heap.size w w' → DfPost B g cap node L w (.returned (.slice (some ⟨g, 0, none⟩) L.length cap)) w' := fun w' hb =>
      ⟨L.length, rfl, by rw [HALL], Nat.le_refl _, by rw [HALL]; exact own_below hO hb, Chg.of_below hb⟩
    have HPP := Lib.hid HP
    clear hO hN hM hs hI HALL HP hnb
    unfold nodeFn at *
    go_enter Try.func27, Try.ntmps27
    go_wp2_with (go_at_call 29; refine HI.out.mono ?_; rintro e w1 ⟨rfl, hb1⟩)
    go_ret
    exact HPP.out _ hb1

def ClearPost (B fb mb : Nat) (lv : Value) (node : Int) (L : List (Msg × Value)) (w : World) (e : Ending) (w' : World) : Prop :=
  ∃ lv', e = .returned (.int .i64 ((L.length : Int) - ((L.filter (keepsOff node)).length : Int))) ∧ FlightAt B fb mb lv' (L.filter (keepsOff node)) w' ∧ Chg (fb :: lv.ownBlock.toList) w w'
theorem clear_close {B fb mb g cap : Nat} {node : Int} {L : List (Msg × Value)} {w w1 w2 : World} {k : Nat} (hf : FlightAt B fb mb (.slice (some ⟨g, 0, none⟩) L.length cap) L w) (hb : Below w.heap.size w w1) (hp : DfPost B g cap node L w1 (.returned (.slice (some ⟨g, 0, none⟩) k cap)) w2) :
    k = (L.filter (keepsOff node)).length ∧ FlightAt B fb mb (.slice (some ⟨g, 0, none⟩) k cap) (L.filter (keepsOff node)) (w2.setCell ⟨fb, 0, none⟩ (.slice (some ⟨g, 0, none⟩) k cap)) ∧ Chg [fb, g] w (w2.setCell ⟨fb, 0, none⟩ (.slice (some ⟨g, 0, none⟩) k cap)) ∧ w2.heap[fb]? = some (.cells #[.slice (some ⟨g, 0, none⟩) L.length cap, .map (some mb)] 50 (0, 0)) := by
  obtain ⟨k', he, hk, _, hown, hch⟩ := hp
  cases he
  have hfb : fb < w.heap.size := (Array.getElem?_eq_some_iff.1 hf.st).1
  obtain ⟨cur, hg⟩ := own_type hf.own rfl
  have hne : fb ≠ g := by rintro rfl; rw [hf.st] at hg; cases hg
  have h1 := hf.below hb
  have hst2 := (hch.block fb (Nat.lt_of_lt_of_le hfb hb.size) (by simpa using hne)).trans h1.st
  refine ⟨hk, ⟨hf.hB, ?_, ?_, ?_⟩, ?_, hst2⟩
  · simpa using Own.heap_setCell_same hst2 0 (.slice (some ⟨g, 0, none⟩) k cap)
  · rw [← hk]
    refine ownsRow_setCell_other hown ?_ _
    intro h
    exact hne (Option.some.inj h).symm
  · intro p hp
    have h3 := h1.bytes p (List.mem_filter.1 hp).1
    refine own_same h3 fun b hb' => ?_
    obtain ⟨c1, e1⟩ := own_type h3 hb'
    have n1 : b ≠ g := by
      rintro rfl
      rw [(hb.block b (Array.getElem?_eq_some_iff.1 hg).1).trans hg] at e1; cases e1
    have n2 : b ≠ fb := by rintro rfl; rw [h1.st] at e1; cases e1
    rw [Below.heap_setCell _ _ _ _ (by simpa using n2)]
    exact hch.block b (h3.lt b hb').2 (by simpa using n1)
  · exact ((Chg.of_below hb).trans hch (fun x hx _ => by simp at hx; simp [hx])).trans (Chg.setCell _ (by simp)) (fun x hx _ => hx)
theorem clear_nil (B fb mb : Nat) (lv : Value) (node : Int) (w : World) (hf : FlightAt B fb mb lv [] w) :
    Calls Try.prog 21 #[.pointer (some ⟨fb, 0, none⟩), .int .i64 node] w fun e w' => e = .returned (.int .i64 0) ∧ Below w.heap.size w w' := by
  obtain ⟨A, c, rfl⟩ := own_slice hf.own
  have hb : ∀ o, Below w.heap.size w (w.alloc o) := fun o => (Below.refl _ _).alloc (Nat.le_refl _) _
  have HL := Lib.hid (fun w1 (h : Below w.heap.size w w1) => len_any fb mb A 0 c w1 ((h.block fb (Array.getElem?_eq_some_iff.1 hf.st).1).trans hf.st))
  clear hf
  go_enter Try.func21, Try.ntmps21
  go_wp2_with (go_at_call 16; refine (HL.out _ (hb _)).mono ?_; rintro e w' ⟨rfl, rfl⟩)
  go_ret
  exact ⟨rfl, hb _⟩
set_option maxRecDepth 100000 in
theorem clear_any (B fb mb : Nat) (lv : Value) (node : Int) (L : List (Msg × Value)) (w : World) (hf : FlightAt B fb mb lv L w) (h0 : 0 < L.length) (hL : L.length ≤ 16384) :
    Calls Try.prog 21 #[.pointer (some ⟨fb, 0, none⟩), .int .i64 node] w (ClearPost B fb mb lv node L w) := by
  obtain ⟨g, cap, rfl, hgB, hglt⟩ := hf.own.form (by omega)
  obtain ⟨O, hO⟩ : ∃ O, O = Obj.cells #[.int .i64 node] 3 := ⟨_, rfl⟩
  have hb : Below w.heap.size w (w.alloc O) := (Below.refl _ _).alloc (Nat.le_refl _) _
  have hnode : (w.alloc O).cell? ⟨w.heap.size, 0, none⟩ = some (.int .i64 node) := by rw [hO, cell_of_row _ _ 0 _ _ (0, 0) (heap_alloc_new w _)]; rfl
  have h1 := hf.below hb
  have HLn := Lib.hid (len_any fb mb _ _ _ _ h1.st)
  have HD := Lib.hid (delf_any B w.heap.size g cap node L _ h1.own hnode hL (fun p hp => by obtain ⟨A, c, h⟩ := own_slice (hf.bytes p hp); exact ⟨A, _, c, h⟩) (by omega))
  have HC := Lib.hid (fun k w2 => clear_close (k := k) (w2 := w2) (node := node) hf hb)
  have hc0 : (w.alloc O).cell? ⟨fb, 0, none⟩ = some (.slice (some ⟨g, 0, none⟩) L.length cap) := by rw [cell_of_row _ fb 0 _ _ _ h1.st]; rfl
  have h0' : (0 : Int) < (L.length : Int) := by omega
  have hL' : (L.length : Int) ≤ 16384 := by omega
  clear hf h1 hL hnode
  unfold nodeFn at HD
  subst hO
  go_enter Try.func21, Try.ntmps21
  go_wp2_with (first
    | (go_at_call 16; refine HLn.out.mono ?_; rintro e w' ⟨rfl, rfl⟩)
    | (go_at_call 27; refine HD.out.mono ?_; rintro e w2 hdp; obtain ⟨k, rfl, _, hkle, _⟩ := id hdp; obtain ⟨hkl, hfl, hchg, hst2⟩ := HC.out k w2 hdp; subst hkl; have hcc : w2.cell? ⟨fb, 0, none⟩ = some (.slice (some ⟨g, 0, none⟩) L.length cap) := (by rw [cell_of_row w2 fb 0 _ _ _ hst2]; rfl); have hfz := frozen_of_block hst2 0; have HL2 := Lib.hid (len_any fb mb _ _ _ _ hfl.st); have HF2 := Lib.hid hfl; have HG2 := Lib.hid hchg; have hkl2 : ((L.filter (keepsOff node)).length : Int) ≤ (L.length : Int) := (by omega); clear hdp hfl hchg hst2)
    | (go_at_call 16; refine HL2.out.mono ?_; rintro e w' ⟨rfl, rfl⟩))
  go_ret
  exact ⟨_, rfl, HF2.out, HG2.out⟩
end Go.Proofs.Ytlieepbmmfdeoaa
