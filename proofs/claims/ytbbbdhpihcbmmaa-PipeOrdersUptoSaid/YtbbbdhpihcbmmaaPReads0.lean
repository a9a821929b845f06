/- PipeReads: the walk, but for the known question. -/
import Derived.Test.YtbbbdhpihcbmmaaPCalls
import Derived.Test.YtbbbdhpihcbmmaaLaw
namespace Go.Proofs.Ytbbbdhpihcbmmaa
open Go.RowKit Own

def writesB (k : Int) : Bool := (k != 5) && (k != 6)
theorem pwrites_any (c : CallIn) (v : Value) (w : World) (hv : ∃ A n m, v = .slice A n m) : Calls Try.prog 8 #[callV c v] w fun e w' => e = .returned (.bool (writesB c.k)) ∧ Below w.heap.size w w' := by
  obtain ⟨A, n, m, rfl⟩ := hv
  obtain ⟨k, s, a, d, nn⟩ := c
  simp only [callV, writesB]
  have HB : Hid (∀ o, Below w.heap.size w (w.alloc o)) := fun o => (Below.refl _ _).alloc (Nat.le_refl _) o
  have hcase : (k != 5) = false ∨ ((k != 5) = true ∧ (k != 6) = true) ∨ ((k != 5) = true ∧ (k != 6) = false) := by cases (k != 5) <;> cases (k != 6) <;> simp
  rcases hcase with h1 | ⟨h1, h2⟩ | ⟨h1, h2⟩
  all_goals
    go_enter Try.func8, Try.ntmps8
    go_wp2_with fail
    go_ret
    exact ⟨by simp [*], HB.out _⟩

theorem doR_len (c : CallIn) (has : Bool) (b : List UInt8) (hb : b.length ≤ 4096) (hm : MayC c → 0 ≤ c.a ∧ 0 ≤ c.n ∧ c.d.length ≤ 4096) : (doR c has b).b.length ≤ 4096 := by
  have hB : (if has = true then b else []).length ≤ 4096 := by
    split
    · exact hb
    · simp
  unfold doR
  simp only []
  generalize (if has = true then b else []) = l at *
  by_cases h0 : MayC c
  · rw [if_neg (by simpa using h0)]
    obtain ⟨p1, p2, p3⟩ := hm h0
    split
    · split <;> simp; omega
    · split
      · exact hB
      · split
        · unfold writtenR
          by_cases h4 : 4096 < (if c.k = 3 then l.length else c.a.toNat) + c.d.length
          · rw [if_pos h4]; exact hB
          · rw [if_neg h4]
            show (if c.d.length = 0 then l else writtenL l (if c.k = 3 then l.length else c.a.toNat) c.d).length ≤ 4096
            split
            · exact hB
            · rw [writtenL_len]; omega
        · split
          · split
            · exact hB
            · show (sizedL l c.n.toNat).length ≤ 4096
              rw [sizedL_len]; omega
          · split
            · exact hB
            · split
              · exact hB
              · simp
  · rw [if_pos (by simpa using h0)]; exact hB
theorem doR_none (c : CallIn) (has : Bool) (b : List UInt8) (h : (doR c has b).has = false) : (doR c has b).b = [] := by
  unfold doR at *
  simp only [] at *
  cases has <;> simp only [if_true, if_false, Bool.false_eq_true, Bool.true_eq_false] at *
  · split at h <;> (try split at h) <;> (try split at h) <;> simp_all
  · split at h
    · cases h
    · split at h
      · cases h
      · rename_i h0 h1
        rw [if_neg h0, if_neg h1]
        split at h
        · rename_i h2
          rw [if_pos h2]
          split at h <;> cases h
        · rename_i h2
          rw [if_neg h2]
          split at h
          · split at h <;> cases h
          · rename_i h3
            rw [if_neg h3]
            split at h
            · cases h
            · rename_i h4
              rw [if_neg h4]
              split at h
              · cases h
              · rename_i h5
                rw [if_neg h5]
theorem doR_same (c : CallIn) (has : Bool) (b : List UInt8) (hb : has = false → b = []) (h : writesB c.k = false ∨ (doR c has b).code ≠ 0) : (doR c has b).has = has ∧ (doR c has b).b = b := by
  have hk : writesB c.k = false ↔ c.k = 5 ∨ c.k = 6 := by unfold writesB; by_cases h5 : c.k = 5 <;> by_cases h6 : c.k = 6 <;> simp [h5, h6]
  rw [hk] at h
  have hl : (if has = true then b else []) = b := by cases has <;> simp_all
  unfold doR at *
  simp only [hl] at *
  cases has <;> simp only [if_true, if_false, Bool.false_eq_true, Bool.true_eq_false] at *
  · split
    · exact ⟨rfl, rfl⟩
    · rename_i h0
      rw [if_neg h0] at h
      split
      · rename_i h1
        rw [if_pos h1] at h
        rcases h with h | h
        · omega
        · exact absurd rfl h
      · exact ⟨rfl, rfl⟩
  · split
    · exact ⟨rfl, rfl⟩
    · rename_i h0
      rw [if_neg h0] at h
      split
      · exact ⟨rfl, rfl⟩
      · rename_i h1
        rw [if_neg h1] at h
        split
        · rename_i h2
          rw [if_pos h2] at h
          split
          · exact ⟨rfl, rfl⟩
          · rename_i o ho
            rw [ho] at h
            rcases h with h | h
            · omega
            · exact absurd rfl h
        · rename_i h2
          rw [if_neg h2] at h
          split
          · rename_i h3
            rw [if_pos h3] at h
            split
            · exact ⟨rfl, rfl⟩
            · rename_i h4
              rw [if_neg h4] at h
              rcases h with h | h
              · omega
              · exact absurd rfl h
          · rename_i h3
            rw [if_neg h3] at h
            split
            · exact ⟨rfl, rfl⟩
            · rename_i h4
              rw [if_neg h4] at h
              split
              · exact ⟨rfl, rfl⟩
              · rename_i h5
                rw [if_neg h5] at h
                rcases h with h | h
                · omega
                · exact absurd rfl h
theorem OwnB.form {base : Nat} {v : Value} {l : List UInt8} {w : World} (h : OwnB base v l w) : ∃ A c, v = .slice A l.length c ∧ l.length ≤ c := by
  rcases h with ⟨rfl, rfl⟩ | ⟨g, c, cur, rfl, _, _, hc, _⟩
  · exact ⟨none, 0, rfl, Nat.le_refl _⟩
  · exact ⟨_, c, rfl, hc⟩
theorem c_do (c : CallIn) (hok : CallOk c) (dv bv : Value) (has : Bool) (b : List UInt8) (base : Nat) (w : World) (hd : ReadsB w dv c.d) (ho : OwnB base bv b w) (hl : b.length ≤ 4096) :
    Calls Try.prog 7 #[callV c dv, .bool has, bv] w (DoPost (doR c has b) w) :=
  do_any c dv bv has b w hd ho.reads (fun A n k e => by
    obtain ⟨A', c', rfl, hc⟩ := ho.form
    cases e
    exact hc) hl hok.s (Law.wf_i64 hok.a).2

set_option maxHeartbeats 4000000 in
theorem preads_walk (hA : ∀ w, Calls Try.prog 9 #[] w fun e w' => e = .returned (.bool true) ∧ Below w.heap.size w w') (v : Value) (xs : List CallIn) (hok : ∀ x ∈ xs, CallOk x) (w : World) (hv : ReadsCalls w v xs) :
    Calls Try.prog 3 #[v] w fun e w' => e = .returned (.bool true) ∧ Below w.heap.size w w' := by
  obtain ⟨Av, cv, rfl⟩ := hv.slice
  have HV := Lib.hid hv
  have HO := Lib.hid hok
  have HA := Lib.hid hA
  clear hv hok hA
  have HS : Hid (OwnB w.heap.size (.slice (some ⟨w.heap.size, 0, none⟩) 0 0) [] (w.alloc (.cells #[] 5)) ∧ Below w.heap.size w (w.alloc (.cells #[] 5))) :=
    ⟨OwnB.of_row (World.ownsRow_made w #[] 0 (Nat.le_refl _) (by unfold maxLen; omega) rfl), (Below.refl _ _).alloc (Nat.le_refl _) _⟩
  go_enter Try.func3, Try.ntmps3
  go_wp2_with fail
  go_loopw [3, 4, 5] (fun h b i wr => ∃ (j : Nat) (hs : Bool) (l : List UInt8) (A : Option Addr) (c : Nat), i = .int .i64 j ∧ h = .bool hs ∧ b = .slice A l.length c ∧ j ≤ 100 ∧ j ≤ xs.length ∧ Hid (OwnB w.heap.size (.slice A l.length c) l wr ∧ Below w.heap.size w wr ∧ l.length ≤ 4096 ∧ (hs = false → l = []))) (fun _ _ i _ => xs.length - (intOf i).toNat)
  case atStart => exact ⟨0, false, [], _, _, rfl, rfl, rfl, Nat.zero_le _, Nat.zero_le _, HS.out.1, HS.out.2, Nat.zero_le _, fun _ => rfl⟩
  case round =>
    obtain ⟨j, hs, l, A, c, rfl, rfl, rfl, hj1, hjk, HJ⟩ := hrel
    obtain ⟨wL, rfl⟩ : ∃ wo : World, wo = wr := ⟨_, rfl⟩
    clear HS
    by_cases hj : j < xs.length ∧ j < 100
    · have k1 : (j : Int) < (xs.length : Int) := by omega
      have k2 : (j : Int) < 100 := by omega
      have k0 : (0 : Int) ≤ (j : Int) := by omega
      obtain ⟨bb, off, cc, hvv, hact⟩ := HV.out.at_ hj.1
      cases hvv
      have hxo := HO.out _ (List.getElem_mem hj.1)
      generalize xs[j]'hj.1 = x at *
      obtain ⟨dv, e0', e1', e2', e3', e4', hrd⟩ := hact
      have hlt : bb < w.heap.size := World.block_lt_of_cell? w _ e0'
      have HC : Hid (∀ w', Below w.heap.size w w' → w'.cell? ⟨bb, off + j * 5, none⟩ = some (.int .i64 x.k) ∧ w'.cell? ⟨bb, off + j * 5 + 1, none⟩ = some (.string x.s) ∧ w'.cell? ⟨bb, off + j * 5 + 2, none⟩ = some (.int .i64 x.a) ∧ w'.cell? ⟨bb, off + j * 5 + 3, none⟩ = some dv ∧ w'.cell? ⟨bb, off + j * 5 + 4, none⟩ = some (.int .i64 x.n)) := fun w' hb =>
        ⟨(hb.cell (p := ⟨bb, off + j * 5, none⟩) hlt).trans e0', (hb.cell (p := ⟨bb, off + j * 5 + 1, none⟩) hlt).trans e1', (hb.cell (p := ⟨bb, off + j * 5 + 2, none⟩) hlt).trans e2', (hb.cell (p := ⟨bb, off + j * 5 + 3, none⟩) hlt).trans e3', (hb.cell (p := ⟨bb, off + j * 5 + 4, none⟩) hlt).trans e4'⟩
      obtain ⟨e0, e1, e2, e3, e4⟩ := HC.out wL HJ.out.2.1
      have hD := c_do x hxo dv (.slice A l.length c) hs l w.heap.size wL (hrd.below HJ.out.2.1) HJ.out.1 HJ.out.2.2.1
      have hlen := doR_len x hs l HJ.out.2.2.1 (fun m => ⟨m.2.2.2.1, m.2.2.2.2.1, m.2.2.2.2.2.1⟩)
      have hnone := doR_none x hs l
      have hsame := doR_same x hs l HJ.out.2.2.2
      have HWr : Hid (∀ W, Calls Try.prog 8 #[callV x dv] W fun e w' => e = .returned (.bool (writesB x.k)) ∧ Below W.heap.size W w') := fun W => pwrites_any x dv W (by obtain ⟨A', c', h⟩ := hrd.slice; exact ⟨A', _, c', h⟩)
      generalize doR x hs l = r at *
      obtain ⟨code, size, data, has2, b2⟩ := r
      simp only [] at hlen hnone hsame
      have hcase : (writesB x.k = false ∧ has2 = hs ∧ b2 = l) ∨ (writesB x.k = true ∧ (code != 0) = true ∧ has2 = hs ∧ b2 = l) ∨ (writesB x.k = true ∧ (code != 0) = false) := by
        cases hw : writesB x.k with
        | false => exact .inl ⟨rfl, hsame (.inl hw)⟩
        | true =>
          by_cases hc : code = 0
          · exact .inr (.inr ⟨rfl, by simp [hc]⟩)
          · exact .inr (.inl ⟨rfl, by simp [hc], hsame (.inr hc)⟩)
      have HDo : Hid (Calls Try.prog 7 #[callV x dv, .bool hs, .slice A l.length c] wL fun e w' => ∃ A1 n1 c1 A2 c2, e = .returned (.tuple #[.agg #[.int .i64 code, .int .i64 size, .slice A1 n1 c1], .bool has2, .slice A2 b2.length c2]) ∧ OwnB w.heap.size (.slice A2 b2.length c2) b2 w' ∧ Below wL.heap.size wL w') := by
        refine hD.mono ?_
        rintro e w' ⟨d1, d2, rfl, o1, o2, hb⟩
        obtain ⟨A1, c1, rfl, _⟩ := o1.form
        obtain ⟨A2, c2, rfl, _⟩ := o2.form
        exact ⟨A1, _, c1, A2, c2, rfl, o2.mono HJ.out.2.1.size, hb⟩
      have hdvs : ∃ Ad nd cd, dv = .slice Ad nd cd := by obtain ⟨A', c', h⟩ := hrd.slice; exact ⟨A', _, c', h⟩
      have hl4 : ¬ (4096 : Int) < (b2.length : Int) := by omega
      have hz : has2 = false → b2 = [] := hnone
      obtain ⟨xk, xs', xa, xd, xn⟩ := x
      simp only [callV] at *
      clear hD hlen hnone hsame hrd e0' e1' e2' e3' e4' hlt hxo
      obtain ⟨Ad, cd, nd, hdv⟩ : ∃ Ad nd cd, dv = .slice Ad nd cd := hdvs
      subst hdv
      have HAl : Hid (∀ (W : World) o, Below W.heap.size W (W.alloc o)) := fun W o => (Below.refl _ _).alloc (Nat.le_refl _) o
      have HL4 : Hid (b2.length ≤ 4096) := by show _ ≤ _; omega
      have HZ := Lib.hid hz
      rcases hcase with ⟨y1, rfl, rfl⟩ | ⟨y1, y2, rfl, rfl⟩ | ⟨y1, y2⟩
      all_goals
        have hfin : (has2 = true) ∨ (has2 = false ∧ b2 = []) := by
          cases has2 with
          | true => exact .inl rfl
          | false => exact .inr ⟨rfl, hz rfl⟩
        clear hz
        rcases hfin with rfl | ⟨rfl, rfl⟩
        all_goals
          try simp only [List.length_nil] at *
          go_wp2_with (first
            | (go_at_call 7; (with_reducible refine HDo.out.mono ?_); rintro e w2 ⟨A1, n1, c1, A2, c2, rfl, ho, hb⟩; have hb2 := HJ.out.2.1.trans (hb.mono HJ.out.2.1.size); have f0 := fun o => (HC.out (w2.alloc o) (hb2.trans ((HAl.out w2 o).mono hb2.size))).1; have f1 := fun o => (HC.out (w2.alloc o) (hb2.trans ((HAl.out w2 o).mono hb2.size))).2.1; have f2 := fun o => (HC.out (w2.alloc o) (hb2.trans ((HAl.out w2 o).mono hb2.size))).2.2.1; have f3 := fun o => (HC.out (w2.alloc o) (hb2.trans ((HAl.out w2 o).mono hb2.size))).2.2.2.1; have f4 := fun o => (HC.out (w2.alloc o) (hb2.trans ((HAl.out w2 o).mono hb2.size))).2.2.2.2; have HBx := Lib.hid hb; have HB2 := Lib.hid hb2; have HO2 := Lib.hid ho; clear hb hb2 ho)
            | (go_at_call 8; (with_reducible refine (HWr.out _).mono ?_); rintro e w3 ⟨rfl, hb3⟩; have q0 := (hb3.cell (p := ⟨w2.heap.size, 0, none⟩) (by simp)).trans (by rw [cell_of_row _ _ 0 _ _ _ (heap_alloc_new w2 _)]; rfl : _ = some (.int .i64 code)); have hbb := (HAl.out w2 _).trans (hb3.mono (HAl.out w2 _).size); have u1 := conv_reads (HO2.out.below hbb).reads; have u2 := conv_reads (HJ.out.1.below (HBx.out.trans (hbb.mono HBx.out.size))).reads; have HO3 := Lib.hid (HO2.out.below hbb); have HB3 := Lib.hid (HB2.out.trans (hbb.mono HB2.out.size)); clear hb3 hbb))
          go_roundw
          case rel =>
            first
              | exact ⟨j + 1, true, b2, A2, c2, by go_num, rfl, rfl, by omega, by omega, HO3.out, HB3.out, HL4.out, fun h => by cases h⟩
              | exact ⟨j + 1, true, l, A2, c2, by go_num, rfl, rfl, by omega, by omega, HO3.out, HB3.out, HL4.out, fun h => by cases h⟩
              | exact ⟨j + 1, false, [], A2, c2, by go_num, rfl, rfl, by omega, by omega, HO3.out, HB3.out, Nat.zero_le _, fun _ => rfl⟩
          case measure => simp [intOf]; omega
    · have hx : ¬ (j : Int) < (xs.length : Int) ∨ ((j : Int) < (xs.length : Int) ∧ ¬ (j : Int) < 100) := by omega
      rcases hx with h1 | ⟨h1, h2⟩
      all_goals
        go_wp2_with (go_at_call 9; refine (HA.out _).mono ?_; rintro e w9 ⟨rfl, hb9⟩)
        go_ret
        exact ⟨rfl, HJ.out.2.1.trans (hb9.mono HJ.out.2.1.size)⟩
end Go.Proofs.Ytbbbdhpihcbmmaa
