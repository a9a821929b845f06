/- The walk of the law's 'does'. -/
import Derived.Test.YtjlbamjebidhgaaJoint
import Derived.Test.YtjlbamjebidhgaaActs7
import Derived.Test.YtjlbamjebidhgaaTurn
namespace Go.Proofs.Ytjlbamjebidhgaa
open Go.RowKit Own

/-- both, as they stand between two acts -/
def JS (w0 : World) (n db rb m : Nat) (w : World) : Prop := ∃ D SS Q, D.db = db ∧ Jo w0 n D rb SS Q w ∧ Sync n D.S D.P SS Q ∧ Q.length ≤ m
theorem JS.go {w0 w w' : World} {n db rb m : Nat} (h : JS w0 n db rb m w) (hb : Below w.heap.size w w') : JS w0 n db rb m w' := by
  obtain ⟨D, SS, Q, h1, h2, h3⟩ := h
  exact ⟨D, SS, Q, h1, h2.go hb, h3⟩
theorem JS.below {w0 w : World} {n db rb m : Nat} (h : JS w0 n db rb m w) : Below w0.heap.size w0 w := by
  obtain ⟨D, SS, Q, h1, h2, h3⟩ := h
  exact h2.dk.below
theorem JS.more {w0 w : World} {n db rb m : Nat} (h : JS w0 n db rb m w) : JS w0 n db rb (m + 1) w := by
  obtain ⟨D, SS, Q, h1, h2, h3, h4⟩ := h
  exact ⟨D, SS, Q, h1, h2, h3, by omega⟩
theorem P_len {P : List Wr} {Q : List (Nat × List UInt8)} (h : P.map (fun p => (p.at_, p.b)) = Q) : P.length = Q.length := by rw [← h]; simp

def DoesPost (w0 : World) (n db rb m : Nat) (_w : World) (e : Ending) (w' : World) : Prop := e = .returned (.bool true) ∧ JS w0 n db rb m w'
def actV (d a : Int) (b : Value) (x : UInt8) (c : Value) : Value := .agg #[.int .i64 d, .int .i64 a, b, .int .u8 (x.toNat : Int), c]

theorem does_other (w0 : World) (n db rb m : Nat) (d a : Int) (Ab : Option Addr) (nb cb : Nat) (x : UInt8) (Ac : Option Addr) (nc cc : Nat) (w : World) (h : JS w0 n db rb m w) (hd : d ≠ 0 ∧ d ≠ 1 ∧ d ≠ 2 ∧ d ≠ 3 ∧ d ≠ 4) :
    Calls Try.prog 15 #[.pointer (some ⟨db, 0, none⟩), .pointer (some ⟨rb, 0, none⟩), .agg #[.int .i64 d, .int .i64 a, .slice Ab nb cb, .int .u8 (x.toNat : Int), .slice Ac nc cc]] w (DoesPost w0 n db rb (m + 1) w) := by
  obtain ⟨h0, h1, h2, h3, h4⟩ := hd
  have e0 : (d == 0) = false := beq_eq_false_iff_ne.2 h0
  have e1 : (d == 1) = false := beq_eq_false_iff_ne.2 h1
  have e2 : (d == 2) = false := beq_eq_false_iff_ne.2 h2
  have e3 : (d == 3) = false := beq_eq_false_iff_ne.2 h3
  have e4 : (d == 4) = false := beq_eq_false_iff_ne.2 h4
  have HJ := Lib.hid (fun o : Obj => (h.go ((Below.refl w.heap.size w).alloc (Nat.le_refl _) o)).more)
  clear h h0 h1 h2 h3 h4
  go_enter Try.func15, Try.ntmps15
  go_wp2_with fail
  go_ret
  exact ⟨rfl, HJ.out _⟩

/-! ### flush and crash -/
theorem c_flush {w0 w : World} {n rb : Nat} {D : DkS} {SS : List (List UInt8)} {Q : List (Nat × List UInt8)} (h : Jo w0 n D rb SS Q w) (hy : Sync n D.S D.P SS Q) (hm : Q.length ≤ 16384) :
    Calls Try.prog 10 #[D.ptr] w fun e w' => e = .returned (.tuple #[]) ∧ ∃ D', D'.db = D.db ∧ Jo w0 n D' rb SS Q w' ∧ Sync n D'.S D'.P (crashR SS Q (flagOf [] true) Q.length) [] := by
  have hl := P_len hy.q
  refine (dk_flush h.dk (by omega)).mono ?_
  rintro e w' ⟨rfl, D', hd', hs, hp, hS, hP⟩
  refine ⟨rfl, D', by simpa [DkS.ptr] using hp, h.step hd' hs, ?_⟩
  rw [hS, hP, ← flushD_eq]
  exact hy.crash _ _ fun j hj => by simp [flagOf, List.getD_eq_getElem?_getD, hl, hj]
theorem c_crash {w0 w : World} {n rb : Nat} {D : DkS} {SS : List (List UInt8)} {Q : List (Nat × List UInt8)} (h : Jo w0 n D rb SS Q w) (hy : Sync n D.S D.P SS Q) (hm : Q.length ≤ 16384) (v : Value) (cs : List Bool) (hv : ReadsC w v cs) (hf : ∀ a k c, v = .slice (some a) k c → 0 < k → ¬ D.mine a.block) :
    Calls Try.prog 11 #[D.ptr, v] w fun e w' => e = .returned (.tuple #[]) ∧ ∃ D', D'.db = D.db ∧ Jo w0 n D' rb SS Q w' ∧ Step D w D' w' ∧ Sync n D'.S D'.P (crashR SS Q (flagOf cs false) Q.length) [] := by
  have hl := P_len hy.q
  refine (dk_crash h.dk v cs hv hf (by omega)).mono ?_
  rintro e w' ⟨rfl, D', hd', hs, hp, hS, hP⟩
  refine ⟨rfl, D', by simpa [DkS.ptr] using hp, h.step hd' hs, hs, ?_⟩
  rw [hS, hP]
  exact hy.crash _ _ fun j hj => by simp [flagOf]
theorem c_rcrash {w0 w : World} {n rb : Nat} {D : DkS} {SS : List (List UInt8)} {Q : List (Nat × List UInt8)} (h : Jo w0 n D rb SS Q w) (hn : n ≤ 4096) (hn0 : 0 < n) (hSS : SS.length = n) (hqs : ∀ q ∈ Q, q.1 < n) (hm : Q.length ≤ 16384) (v : Value) (cs : List Bool) (all : Bool) (hv : ReadsC w v cs) (hy : Sync n D.S D.P (crashR SS Q (flagOf cs all) Q.length) []) (m : Nat) :
    Calls Try.prog 26 #[.pointer (some ⟨rb, 0, none⟩), v, .bool all] w fun e w' => e = .returned (.tuple #[]) ∧ JS w0 n D.db rb m w' := by
  obtain ⟨sv, pv, hr⟩ := h.rf
  refine (rcrash_any _ rb sv pv SS Q v cs all w hr (by omega) (by omega) hm (fun q hq => by rw [hSS]; exact hqs q hq) hv).mono ?_
  rintro e w' ⟨rfl, ⟨sv', hr'⟩, ht⟩
  exact ⟨rfl, D, _, [], rfl, h.tstep ht hr', hy, Nat.zero_le _⟩
theorem does_flush (w0 : World) (n db rb m : Nat) (a : Int) (Ab : Option Addr) (nb cb : Nat) (x : UInt8) (Ac : Option Addr) (nc cc : Nat) (w : World) (h : JS w0 n db rb m w) (hm : m ≤ 16000) :
    Calls Try.prog 15 #[.pointer (some ⟨db, 0, none⟩), .pointer (some ⟨rb, 0, none⟩), .agg #[.int .i64 2, .int .i64 a, .slice Ab nb cb, .int .u8 (x.toNat : Int), .slice Ac nc cc]] w (DoesPost w0 n db rb (m + 1) w) := by
  obtain ⟨O, hO⟩ : ∃ O, O = Obj.cells #[Value.int .i64 2, .int .i64 a, .slice Ab nb cb, .int .u8 (x.toNat : Int), .slice Ac nc cc] 31 := ⟨_, rfl⟩
  obtain ⟨D, SS, Q, rfl, h2, h3, h4⟩ := h
  have HC := Lib.hid (c_flush (h2.go ((Below.refl w.heap.size w).alloc (Nat.le_refl _) O)) h3 (by omega))
  have HN := Lib.hid (show SS.length = n ∧ n ≤ 4096 ∧ 0 < n ∧ ∀ q ∈ Q, q.1 < n from ⟨h3.len, h2.dk.le, h2.dk.pos, fun q hq => (h3.qs q hq).1⟩)
  have HQ : Hid (Q.length ≤ 16384) := by show _ ≤ _; omega
  unfold DkS.ptr at HC
  rw [hO] at HC
  clear h2 h3 h4 hO hm
  go_enter Try.func15, Try.ntmps15
  go_wp2_with (first
    | (go_at_call 10; refine HC.out.mono ?_; rintro e w2 ⟨rfl, D', hdb', hj, hy⟩; have HR := Lib.hid (c_rcrash hj HN.out.2.1 HN.out.2.2.1 HN.out.1 HN.out.2.2.2 HQ.out (.slice none 0 0) [] true (.inl ⟨rfl, rfl⟩) hy (m + 1)); have HDB2 := Lib.hid hdb'; clear hj hy hdb')
    | (go_at_call 26; refine HR.out.mono ?_; rintro e w3 ⟨rfl, hjs⟩))
  go_ret
  exact ⟨rfl, by rw [HDB2.out] at hjs; exact hjs⟩
/-- 'append([]bool{}, c...)' -/
theorem own_copyC (v : Value) (l : List Bool) (w : World) (h : ReadsC w v l) (hl : l.length ≤ 140737488351232) :
    ∃ A c wA, (Builtin.append_ #[29, 29] 29 #[.slice (some ⟨w.heap.size, 0, none⟩) 0 0, v]).run Try.prog (w.alloc (.cells #[] 4)) = .ok (.slice A l.length c) wA ∧
      wA.ownsRow w.heap.size 4 1 (.slice A l.length c) l.length (boolV l) ∧ Below w.heap.size w wA := by
  obtain ⟨i0, hi, hz0, hz1, hz2⟩ := info_parts infoBool
  have hmade : (w.alloc (.cells #[] 4)).ownsRow w.heap.size 4 1 (.slice (some ⟨w.heap.size, 0, none⟩) 0 0) 0 [] :=
    World.ownsRow_made w #[] 0 (Nat.le_refl _) (by unfold maxLen; omega) rfl
  have hbel : Below w.heap.size w (w.alloc (.cells #[] 4)) := (Below.refl _ _).alloc (Nat.le_refl _) _
  have hsz : w.heap.size ≤ (w.alloc (.cells #[] 4)).heap.size := hbel.size
  rcases h with ⟨rfl, rfl⟩ | ⟨a, c, rfl, hc⟩
  · refine ⟨some ⟨w.heap.size, 0, none⟩, 0, _, ?_, hmade, hbel⟩
    simp [Builtin.append_, run_underlying Try.underlying29, Result.andThen, Builtin.lenOf, Builtin.firstCells, storeCells]
  · have hc2 : ∀ j u, (boolV l)[j]? = some u → (w.alloc (.cells #[] 4)).cell? (a.add j) = some u := fun j u hu => by
      have h1 := hc j u hu
      rw [hbel.cell (p := a.add j) (World.block_lt_of_cell? w _ h1)]
      exact h1
    obtain ⟨v1, w1, hr, hown, hg, _, _⟩ := run_append_own_at (P := Try.prog) (w.alloc (.cells #[] 4)) w.heap.size 29 29 4 i0 (.bool false) 1 1 Try.underlying29 hi hz0 hz1 hz2 rfl (by decide) _ 0 [] hmade a l.length c (boolV l) (by simp [boolV]) hc2 (boolV_one l) (by unfold maxLen; omega) (by omega) hsz
    simp only [Nat.zero_add, List.nil_append] at hown
    obtain ⟨A, c', rfl⟩ := own_slice hown
    exact ⟨A, c', w1, hr, hown, hbel.grown hg hsz (fun k hk => (hmade.lt k hk).1)⟩

theorem does_crash (w0 : World) (n db rb m : Nat) (a : Int) (Ab : Option Addr) (nb cb : Nat) (x : UInt8) (c : Value) (cs : List Bool) (w : World) (h : JS w0 n db rb m w) (hm : m ≤ 16000) (hc : ReadsC w0 c cs) (hcl : cs.length ≤ 140737488351232) :
    Calls Try.prog 15 #[.pointer (some ⟨db, 0, none⟩), .pointer (some ⟨rb, 0, none⟩), .agg #[.int .i64 3, .int .i64 a, .slice Ab nb cb, .int .u8 (x.toNat : Int), c]] w (DoesPost w0 n db rb (m + 1) w) := by
  obtain ⟨D, SS, Q, rfl, h2, h3, h4⟩ := h
  obtain ⟨Ac, cc, rfl⟩ := hc.slice
  obtain ⟨O, hO⟩ : ∃ O, O = Obj.cells #[Value.int .i64 3, .int .i64 a, .slice Ab nb cb, .int .u8 (x.toNat : Int), .slice Ac cs.length cc] 31 := ⟨_, rfl⟩
  have hbox : (w.alloc O).heap[w.heap.size]? = some (.cells #[Value.int .i64 3, .int .i64 a, .slice Ab nb cb, .int .u8 (x.toNat : Int), .slice Ac cs.length cc] 31 (0, 0)) := by rw [hO]; exact heap_alloc_new w _
  have HCell : Hid (∀ w' : World, w'.heap[w.heap.size]? = some (.cells #[Value.int .i64 3, .int .i64 a, .slice Ab nb cb, .int .u8 (x.toNat : Int), .slice Ac cs.length cc] 31 (0, 0)) → w'.cell? ⟨w.heap.size, 4, none⟩ = some (.slice Ac cs.length cc)) := fun w' hh => by rw [cell_of_row _ _ 4 _ _ _ hh]; rfl
  have hlt : w.heap.size < (w.alloc O).heap.size := by simp
  have h2a := h2.go ((Below.refl w.heap.size w).alloc (Nat.le_refl _) O)
  obtain ⟨Ao, co, wA, hap, hown, hbA⟩ := own_copyC _ cs (w.alloc O) (hc.below h2a.dk.below) hcl
  have k4 : ((w.alloc O).alloc (.cells #[] 4)).cell? ⟨w.heap.size, 4, none⟩ = some (.slice Ac cs.length cc) := HCell.out _ (((Below.refl (w.alloc O).heap.size (w.alloc O)).alloc (Nat.le_refl _) _).block _ hlt |>.trans hbox)
  have hboxA := (hbA.block _ hlt).trans hbox
  have h2A := h2a.go hbA
  have HC := Lib.hid (c_crash h2A h3 (by omega) (.slice Ao cs.length co) cs (reads_bool_own hown rfl) (fun a k c hv hk hx => by
    obtain ⟨cur, t, e, ht⟩ := h2A.dk.mineT hx
    obtain ⟨cur', e'⟩ := own_type hown (g := a.block) (by rw [hv]; rfl)
    rw [e'] at e
    cases e
    revert ht; decide))
  have HN := Lib.hid (show SS.length = n ∧ n ≤ 4096 ∧ 0 < n ∧ ∀ q ∈ Q, q.1 < n from ⟨h3.len, h2.dk.le, h2.dk.pos, fun q hq => (h3.qs q hq).1⟩)
  have HQ : Hid (Q.length ≤ 16384) := by show _ ≤ _; omega
  have HK : Hid (∀ (D' : DkS) (w' : World), Step D wA D' w' → w'.heap[w.heap.size]? = some (.cells #[Value.int .i64 3, .int .i64 a, .slice Ab nb cb, .int .u8 (x.toNat : Int), .slice Ac cs.length cc] 31 (0, 0))) := fun D' w' hs => h2A.dk.keep hs hboxA (by decide)
  have HR0 : Hid (∀ w', Below w0.heap.size w0 w' → ReadsC w' (.slice Ac cs.length cc) cs) := fun w' hb => hc.below hb
  have hsz1 : (w.alloc O).heap.size = w.heap.size + 1 := by simp
  rw [hsz1] at hap
  unfold DkS.ptr at HC
  rw [hO] at hap k4
  clear h2 h3 h4 hO hm hbox hboxA hown hbA h2a h2A hc hlt hsz1
  go_enter Try.func15, Try.ntmps15
  go_wp2_with (first
    | (at_builtin; refine wpList_append_run rfl rfl rfl rfl hap ?_)
    | (go_at_call 11; refine HC.out.mono ?_; rintro e w2 ⟨rfl, D', hdb', hj, hs, hy⟩; have hk4 := HCell.out _ (HK.out _ _ hs); have HR := Lib.hid (c_rcrash hj HN.out.2.1 HN.out.2.2.1 HN.out.1 HN.out.2.2.2 HQ.out (.slice Ac cs.length cc) cs false (HR0.out _ hj.dk.below) hy (m + 1)); have HDB2 := Lib.hid hdb'; clear hj hy hdb' hs hap k4)
    | (go_at_call 26; refine HR.out.mono ?_; rintro e w3 ⟨rfl, hjs⟩))
  go_ret
  exact ⟨rfl, by rw [HDB2.out] at hjs; exact hjs⟩

/-! ### rot -/
theorem c_rot {w0 w : World} {n rb : Nat} {D : DkS} {SS : List (List UInt8)} {Q : List (Nat × List UInt8)} (h : Jo w0 n D rb SS Q w) (a : Int) (x : UInt8) :
    Calls Try.prog 20 #[D.ptr, .int .i64 a, .int .u8 (x.toNat : Int)] w fun e w' => e = .returned (.int .i64 (if 0 ≤ a ∧ a < (n : Int) * 64 then 0 else 1)) ∧
      ∃ D', D'.db = D.db ∧ Jo w0 n D' rb SS Q w' ∧ Step D w D' w' ∧ D'.P = D.P ∧ D'.S = (if 0 ≤ a ∧ a < (n : Int) * 64 then D.S.set a.toNat (D.S.getD a.toNat 0 ^^^ x) else D.S) := by
  by_cases hin : 0 ≤ a ∧ a < (n : Int) * 64
  · obtain ⟨k, rfl⟩ := Int.eq_ofNat_of_zero_le hin.1
    refine (dk_rot_in h.dk x (k := k) (by omega)).mono ?_
    rintro e w' ⟨rfl, D', hd', hs, hp, hS, hP⟩
    rw [if_pos hin, if_pos hin]
    exact ⟨rfl, D', by simpa [DkS.ptr] using hp, h.step hd' hs, hs, hP, by simpa using hS⟩
  · refine (dk_rot_out h.dk a x (by omega)).mono ?_
    rintro e w' ⟨rfl, rfl⟩
    rw [if_neg hin, if_neg hin]
    exact ⟨rfl, D, rfl, h, Step.refl _ _, rfl, rfl⟩
theorem c_rrot {w0 w : World} {n rb : Nat} {D : DkS} {SS : List (List UInt8)} {Q : List (Nat × List UInt8)} (h : Jo w0 n D rb SS Q w) (hlen : SS.length = n) (hall : ∀ b ∈ SS, b.length = 64) (a : Int) (x : UInt8) (hm : a ≤ 9223372036854775807) :
    Calls Try.prog 27 #[.pointer (some ⟨rb, 0, none⟩), .int .i64 a, .int .u8 (x.toNat : Int)] w fun e w' => e = .returned (.int .i64 (if 0 ≤ a ∧ a < (n : Int) * 64 then 0 else 1)) ∧
      Jo w0 n D rb (if 0 ≤ a ∧ a < (n : Int) * 64 then SS.set (a.toNat / 64) ((SS.getD (a.toNat / 64) []).set (a.toNat % 64) ((SS.getD (a.toNat / 64) []).getD (a.toNat % 64) 0 ^^^ x)) else SS) Q w' ∧ TStep refT w0.heap.size w w' := by
  obtain ⟨sv, pv, hr⟩ := h.rf
  have hn := h.dk.le
  by_cases hin : 0 ≤ a ∧ a < (n : Int) * 64
  · obtain ⟨k, rfl⟩ := Int.eq_ofNat_of_zero_le hin.1
    have hq : k / 64 < SS.length := by omega
    have hk : k = k / 64 * 64 + k % 64 := by omega
    have h64 : (SS.getD (k / 64) []).length = 64 := by
      rw [List.getD_eq_getElem?_getD, List.getElem?_eq_getElem hq]
      exact hall _ (List.getElem_mem hq)
    have := rrot_in _ rb (k / 64) (k % 64) sv pv SS Q x w hr (by omega) hq (by omega) h64
    rw [← hk] at this
    refine this.mono ?_
    rintro e w' ⟨sv', rfl, hr', ht⟩
    rw [if_pos hin, if_pos hin]
    exact ⟨rfl, h.tstep ht hr', ht⟩
  · refine (rrot_out _ rb sv pv SS Q a x w hr hm (by omega)).mono ?_
    rintro e w' ⟨rfl, rfl⟩
    rw [if_neg hin, if_neg hin]
    exact ⟨rfl, h, TStep.of_below h.dk.below.size (Below.refl _ _)⟩
theorem sync_rot {n : Nat} {S : List UInt8} {P : List Wr} {SS : List (List UInt8)} {Q : List (Nat × List UInt8)} (h : Sync n S P SS Q) (a : Int) (x : UInt8) :
    Sync n (if 0 ≤ a ∧ a < (n : Int) * 64 then S.set a.toNat (S.getD a.toNat 0 ^^^ x) else S) P (if 0 ≤ a ∧ a < (n : Int) * 64 then SS.set (a.toNat / 64) ((SS.getD (a.toNat / 64) []).set (a.toNat % 64) ((SS.getD (a.toNat / 64) []).getD (a.toNat % 64) 0 ^^^ x)) else SS) Q := by
  by_cases hin : 0 ≤ a ∧ a < (n : Int) * 64
  · rw [if_pos hin, if_pos hin]
    have := h.rot (q := a.toNat / 64) (r := a.toNat % 64) (by omega) (by omega) x
    rwa [show a.toNat / 64 * 64 + a.toNat % 64 = a.toNat by omega] at this
  · rw [if_neg hin, if_neg hin]; exact h
end Go.Proofs.Ytjlbamjebidhgaa
