/- The walk of slices.Repeat at one true. -/
import Derived.Test.YtjlbamjebidhgaaDisk4
import Derived.Laws.Bits64b
import Derived.Laws.MakeOwn
import Derived.Laws.OwnMore
namespace Go.Proofs.Ytjlbamjebidhgaa
open Go.RowKit Own

theorem mask_small (a : Nat) (ha : a < 4294967296) : bits .and .u64 (a : Int) 4294967295 = (a : Int) := by
  have h := bits_and_u64_nat a 4294967295 (by omega) (by omega)
  have e : a &&& 4294967295 = a % 4294967296 := Nat.and_two_pow_sub_one_eq_mod a 32
  rw [e, Nat.mod_eq_of_lt ha] at h
  exact h
theorem mul64_one (n : Nat) (hn : n ≤ 16384) (w : World) : Calls Try.prog 30 #[.int .u64 1, .int .u64 n] w fun e w' => e = .returned (.tuple #[.int .u64 0, .int .u64 n]) ∧ w = w' := by
  have hn' : (n : Int) ≤ 16384 := by omega
  have a1 : bits .and .u64 1 4294967295 = 1 := mask_small 1 (by omega)
  have a0 : bits .and .u64 0 4294967295 = 0 := mask_small 0 (by omega)
  have an := mask_small n (by omega)
  have dn : (n : Int) / 4294967296 = 0 := by omega
  have wn : IntKind.u64.wrap (n : Int) = n := by rw [IntKind.wrap_u64]; omega
  have w0 : IntKind.u64.wrap 0 = 0 := by rfl
  go_enter Try.func30, Try.ntmps30
  go_wp2_with fail
  go_ret2
  exact ⟨rfl, rfl⟩
theorem mul_one (n : Nat) (hn : n ≤ 16384) (w : World) : Calls Try.prog 28 #[.int .u64 1, .int .u64 n] w fun e w' => e = .returned (.tuple #[.int .u64 0, .int .u64 n]) ∧ w = w' := by
  have H := Lib.hid (mul64_one n hn w)
  have hn' : (n : Int) ≤ 16384 := by omega
  clear hn
  go_enter Try.func28, Try.ntmps28
  go_wp2_with (go_at_call 30; refine H.out.mono ?_; rintro e w' ⟨rfl, rfl⟩)
  go_ret2
  exact ⟨rfl, rfl⟩
theorem infoBool : (Try.prog.info? 4).map (fun i => (i.zero, i.size, i.bytes)) = some (some (.bool false), 1, 1) := by kernel_rfl
theorem sizeBool : (Try.prog.info? 4).map (·.size) = some 1 := by kernel_rfl
theorem boolV_one (l : List Bool) : ∀ u ∈ boolV l, u.oneCell' = true := fun u hu => by
  obtain ⟨b, _, rfl⟩ := List.mem_map.1 hu
  rfl
/-- a row of bools of which the first m are true -/
def someT (n m : Nat) : List Bool := List.replicate m true ++ List.replicate (n - m) false
theorem someT_length {n m : Nat} (h : m ≤ n) : (someT n m).length = n := by simp [someT]; omega
theorem someT_fill {n m k : Nat} (h : m + k ≤ n) : (boolV (someT n m)).take m ++ boolV (List.replicate k true) ++ (boolV (someT n m)).drop (m + (boolV (List.replicate k true)).length) = boolV (someT n (m + k)) := by
  simp only [boolV, someT, List.map_append, List.map_replicate, List.length_replicate]
  rw [List.take_left' (by simp), List.drop_append]
  simp only [List.length_replicate, List.drop_replicate]
  rw [show m - (m + k) = 0 by omega, show n - m - (m + k - m) = n - (m + k) by omega, List.replicate_zero, List.nil_append, List.replicate_append_replicate]
theorem someT_zero (n : Nat) : someT n 0 = List.replicate n false := by simp [someT]
theorem someT_all (n : Nat) : someT n n = List.replicate n true := by simp [someT]
theorem reads_bool_own {w : World} {base n : Nat} {v : Value} {l : List Bool} (h : w.ownsRow base 4 1 v n (boolV l)) (hl : l.length = n) : ReadsC w v l := by
  rcases h.2 with ⟨rfl, h0⟩ | ⟨g, cap, cur, rfl, _⟩
  · exact .inl ⟨rfl, List.eq_nil_of_length_eq_zero (by omega)⟩
  · refine .inr ⟨⟨g, 0, none⟩, cap, by rw [hl], fun j u hu => h.cells (g := g) rfl j u hu⟩

/-- the made row, m of it true -/
def Row (base g n m : Nat) (W : World) : Prop := W.ownsRow base 4 1 (.slice (some ⟨g, 0, none⟩) n n) n (boolV (someT n m)) ∧ m ≤ n
theorem Row.fill {base g n m k : Nat} {W : World} (h : Row base g n m W) (hk : m + k ≤ n) : Row base g n (m + k) (W.setCells g m (boolV (List.replicate k true))) := by
  have := own_setCells h.1 (boolV (List.replicate k true)) (o := m) (by simp [boolV]; omega)
  rw [someT_fill hk] at this
  exact ⟨this, hk⟩
theorem Row.drew {base g n m : Nat} {W : World} (h : Row base g n m W) : Row base g n m W.drew := ⟨own_same h.1 fun _ _ => rfl, h.2⟩
theorem Row.run {base g n m : Nat} {W : World} (h : Row base g n m W) (hm0 : 0 < m) (hmn : m < n) (ty : TypeId) (c1 c2 : Nat) :
    (Builtin.copy_ #[60, 60] ty #[.slice (some ⟨g, m, none⟩) (n - m) c1, .slice (some ⟨g, 0, none⟩) m c2]).run Try.prog W = .ok (.int .i64 (Nat.min m (n - m) : Nat)) (W.setCells g m (boolV (List.replicate (Nat.min m (n - m)) true))) := by
  obtain ⟨h, hmn'⟩ := h
  obtain ⟨g', cap', hv, _, _, _, hcell, hfz, _⟩ := own_reads h (by omega)
  cases hv
  have hle : Nat.min m (n - m) ≤ m := Nat.min_le_left _ _
  have hle2 : Nat.min m (n - m) ≤ n - m := Nat.min_le_right _ _
  have := run_copy_cells (P := Try.prog) W 60 60 ty 4 g m (n - m) c1 ⟨g, 0, none⟩ m c2 (boolV (List.replicate (Nat.min m (n - m)) true)) Try.underlying60 sizeBool (by simp [boolV])
    (fun j v hj => by
      have hj' : j < Nat.min m (n - m) := by have := (List.getElem?_eq_some_iff.1 hj).1; simpa [boolV] using this
      rw [Addr.add_lit, Nat.zero_add, hcell j (by omega)]
      rw [← hj]
      simp only [boolV, someT, List.map_append, List.map_replicate]
      rw [List.getElem?_append_left (by simp; omega), List.getElem?_replicate, List.getElem?_replicate, if_pos (by omega), if_pos hj'])
    (fun j hj => by
      have hj' : j < Nat.min m (n - m) := by simpa [boolV] using hj
      rw [hcell _ (by omega), List.getElem?_eq_getElem (by simp only [boolV, List.length_map]; rw [someT_length hmn']; omega)]
      rfl)
    (fun j _ => hfz _)
    (boolV_one _)
  rw [this]
  simp [boolV, goInt]

/-- a copy whose run is known -/
theorem wpList_copy_run {P : Program} {ops : Array Oper} {rest : List Oper} {o : Oper} {a : Act} {Q : Exit → Act → World → Prop} {W W' : World} {s x : Operand} {t t' : TypeId} {v y v' : Value}
    (hgd : o.guard = none) (ho : o.op = .call { callee := .builtin .copy, args := #[s, x], argTypes := #[t, t'] }) (hs : a.eval s = v) (hx : a.eval x = y)
    (hr : (Builtin.copy_ #[t, t'] o.type #[v, y]).run P W = .ok v' W') (h : wpList P ops Q rest (a.put o.dst v') W') : wpList P ops Q (o :: rest) a W := by
  refine wpList_plain hgd fun K' hK' => ?_
  unfold Oper.wp execOp
  simp only [ho, resolve, invoke, builtin, Sem.run_bind, Sem.run_pure, Result.andThen_ok, List.map_toArray, List.map_cons, List.map_nil, hs, hx, hr]
  exact hK' _ _ h
def RepPost (n : Nat) (w : World) (e : Ending) (w' : World) : Prop := ∃ v, e = .returned v ∧ w'.ownsRow w.heap.size 4 1 v n (boolV (List.replicate n true)) ∧ Below w.heap.size w w'
theorem below_cells {B b : Nat} {w w' : World} (h : Below B w w') (hb : B ≤ b) (vs : List Value) (o : Nat) : Below B w (w'.setCells b o vs) := by
  have hr := setCells_rest (b := b) vs o w'
  exact ⟨hr.1.trans h.os, hr.2.1.trans h.tape, hr.2.2.1.trans h.output, by rw [hr.2.2.2]; exact h.size, fun k hk => (heap_setCells_other vs o w' k (by omega)).trans (h.block k hk)⟩
theorem Row.made (w : World) (n : Nat) (hn : n ≤ 16384) : Row w.heap.size w.heap.size n 0 (w.alloc (.cells (madeCells #[.bool false] n) 4)) := by
  refine ⟨⟨by simp [boolV, someT], .inr ⟨w.heap.size, n, _, rfl, Nat.le_refl _, heap_alloc_new w _, Nat.le_refl _, by simp [maxLen]; omega, by rw [size_madeCells, Nat.mul_one], ?_⟩⟩, Nat.zero_le _⟩
  rw [toList_madeCells_one, someT_zero]
  simp [boolV]
def made (n : Nat) : Obj := .cells (madeCells #[.bool false] n) 4
theorem run_mk (n : Nat) (hn : n ≤ 16384) (w : World) : (Instr.makeSlice 60 (.int .i64 n) (.int .i64 n)).run Try.prog w = .ok (.slice (some ⟨w.heap.size, 0, none⟩) n n) (w.alloc (made n)) := by
  obtain ⟨i0, hi, hz0, hz1, hz2⟩ := info_parts infoBool
  have := run_make (P := Try.prog) w 60 4 i0 (.bool false) Try.underlying60 hi hz0 .i64 .i64 n n (by omega) (Int.le_refl _) (by rw [hz2]; omega) (by omega)
  rw [this, hz1]
  simp [made, Value.cells]

set_option maxRecDepth 100000 in
theorem repeat_any (b n : Nat) (w : World) (hc : w.cell? ⟨b, 0, none⟩ = some (.bool true)) (hn : n ≤ 16384) :
    Calls Try.prog 23 #[.slice (some ⟨b, 0, none⟩) 1 1, .int .i64 n] w (RepPost n w) := by
  have hn' : (n : Int) ≤ 16384 := by omega
  have hmk := run_mk n hn
  have H := Lib.hid (mul_one n hn w)
  have HM : Hid (Row w.heap.size w.heap.size n 0 (w.alloc (made n))) := Row.made w n hn
  have HB : Hid (Below w.heap.size w (w.alloc (made n))) := (Below.refl _ _).alloc (Nat.le_refl _) _
  have hcA : (w.alloc (made n)).cell? ⟨b, 0, none⟩ = some (.bool true) := (HB.out.cell (p := ⟨b, 0, none⟩) (World.block_lt_of_cell? w _ hc)).trans hc
  by_cases h0 : n = 0
  · subst h0
    have hcp := run_copy_none (P := Try.prog) (w.alloc (made 0)) 60 60 3 4 (some ⟨w.heap.size, 0, none⟩) (some ⟨b, 0, none⟩) 0 0 1 1 Try.underlying60 sizeBool rfl
    unfold goInt at hcp
    have hmk0 : ∀ w, (Instr.makeSlice 60 (.int .i64 0) (.int .i64 0)).run Try.prog w = .ok (.slice (some ⟨w.heap.size, 0, none⟩) 0 0) (w.alloc (made 0)) := hmk
    clear hn hn' hmk
    go_enter Try.func23, Try.ntmps23
    go_wp2_with (first | (go_at_call 28; refine H.out.mono ?_; rintro e w' ⟨rfl, rfl⟩) | (with_reducible refine wpList_copy_run rfl rfl rfl rfl hcp ?_))
    go_loopw [8] (fun i wr => i = .int .i64 0 ∧ wr = w.alloc (made 0)) (fun _ _ => 0)
    case atStart => exact ⟨rfl, rfl⟩
    case round =>
      obtain ⟨rfl, rfl⟩ := hrel
      go_wp2_with fail
      go_ret
      exact ⟨_, rfl, HM.out.1, HB.out⟩
  · have hpos : 0 < n := by omega
    have HR1 : Hid (Row w.heap.size w.heap.size n 1 ((w.alloc (made n)).setCells w.heap.size 0 (boolV (List.replicate 1 true)))) := HM.out.fill (k := 1) (by omega)
    have hcp := run_copy_cells (P := Try.prog) (w.alloc (made n)) 60 60 3 4 w.heap.size 0 n n ⟨b, 0, none⟩ 1 1 (boolV (List.replicate 1 true)) Try.underlying60 sizeBool (by simp [boolV, Nat.min_def]; omega)
      (fun j v hj => by
        have hj' : j < 1 := by have := (List.getElem?_eq_some_iff.1 hj).1; simpa [boolV] using this
        obtain rfl : j = 0 := by omega
        rw [Addr.add_lit, Nat.zero_add, hcA]; exact hj)
      (fun j hj => by
        have hj' : j < 1 := by simpa [boolV] using hj
        obtain rfl : j = 0 := by omega
        obtain ⟨g', cap', hv, _, _, _, hcell, _⟩ := own_reads HM.out.1 hpos
        cases hv
        rw [hcell 0 hpos, List.getElem?_eq_getElem (by simp only [boolV, List.length_map]; rw [someT_length (Nat.zero_le _)]; omega)]
        rfl)
      (fun j _ => by
        obtain ⟨g', cap', hv, _, _, _, _, hfz, _⟩ := own_reads HM.out.1 hpos
        cases hv
        exact hfz _)
      (boolV_one _)
    have HB1 : Hid (Below w.heap.size w ((w.alloc (made n)).setCells w.heap.size 0 (boolV (List.replicate 1 true)))) := below_cells HB.out (Nat.le_refl _) _ _
    have hcp : ∀ ty, (Builtin.copy_ #[60, 60] ty #[.slice (some ⟨w.heap.size, 0, none⟩) n n, .slice (some ⟨b, 0, none⟩) 1 1]).run Try.prog (w.alloc (made n)) = .ok (.int .i64 1) ((w.alloc (made n)).setCells w.heap.size 0 (boolV (List.replicate 1 true))) := fun ty => hcp
    generalize ((w.alloc (made n)).setCells w.heap.size 0 (boolV (List.replicate 1 true))) = W1 at *
    have hpi : (0 : Int) < (n : Int) := by omega
    clear h0 hn hpos
    go_enter Try.func23, Try.ntmps23
    go_wp2_with (first | (go_at_call 28; refine H.out.mono ?_; rintro e w' ⟨rfl, rfl⟩) | (with_reducible refine wpList_copy_run rfl rfl rfl rfl (hcp _) ?_))
    clear hcp hmk
    go_loopw [8] (fun i wr => ∃ m : Nat, i = .int .i64 m ∧ 0 < m ∧ m ≤ n ∧ Hid (Row w.heap.size w.heap.size n m wr ∧ Below w.heap.size w wr)) (fun i _ => n - (intOf i).toNat)
    case atStart => exact ⟨1, rfl, by omega, by omega, HR1.out, HB1.out⟩
    case round =>
      obtain ⟨m, rfl, hm0, hmn, HJ⟩ := hrel
      obtain ⟨wL, rfl⟩ : ∃ wo : World, wo = wr := ⟨_, rfl⟩
      by_cases hm : m < n
      · have q0 : (0 : Int) ≤ (m : Int) := by omega
        have q1 : (m : Int) ≤ (n : Int) := by omega
        have q2 : (m : Int) < (n : Int) := by omega
        have q3 : (n : Int) ≤ (n : Int) := by omega
        have HK : Hid (∀ ty c1 c2, (Builtin.copy_ #[60, 60] ty #[.slice (some ⟨w.heap.size, m, none⟩) (n - m) c1, .slice (some ⟨w.heap.size, 0, none⟩) m c2]).run Try.prog wL.drew = .ok (.int .i64 (Nat.min m (n - m) : Nat)) (wL.drew.setCells w.heap.size m (boolV (List.replicate (Nat.min m (n - m)) true)))) := fun ty c1 c2 => HJ.out.1.drew.run hm0 hm ty c1 c2
        have hle : Nat.min m (n - m) ≤ n - m := Nat.min_le_right _ _
        have hpos : 0 < Nat.min m (n - m) := by have := Nat.min_def (n := m) (m := n - m); show 0 < min m (n - m); omega
        have HN : Hid (Row w.heap.size w.heap.size n (m + Nat.min m (n - m)) (wL.drew.setCells w.heap.size m (boolV (List.replicate (Nat.min m (n - m)) true))) ∧ Below w.heap.size w (wL.drew.setCells w.heap.size m (boolV (List.replicate (Nat.min m (n - m)) true)))) :=
          ⟨HJ.out.1.drew.fill (by omega), below_cells (w' := wL.drew) ⟨HJ.out.2.os, HJ.out.2.tape, HJ.out.2.output, HJ.out.2.size, HJ.out.2.block⟩ (Nat.le_refl _) _ _⟩
        generalize Nat.min m (n - m) = k at *
        have q4 : (m : Int) + (k : Int) ≤ 16384 := by omega
        have hne : ¬ n = m := by omega
        have q5 : (0 : Int) ≤ (k : Int) := by omega
        clear HJ
        go_wp2_with fail
        have hrun := HK.out 3 (n - m) n
        go_region
        all_goals
          go_wp2_with fail
          go_roundw
          case rel => exact ⟨m + k, by go_num, by omega, by omega, HN⟩
          case measure => simp [intOf]; omega
      · obtain rfl : m = n := by omega
        go_wp2_with fail
        go_ret
        refine ⟨_, rfl, ?_, HJ.out.2⟩
        have := HJ.out.1.1
        rw [someT_all] at this
        exact this
end Go.Proofs.Ytjlbamjebidhgaa
