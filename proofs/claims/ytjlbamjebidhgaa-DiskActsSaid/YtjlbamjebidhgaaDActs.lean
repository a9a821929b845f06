/- DiskActs: the walk and the row. -/
import Derived.Test.YtjlbamjebidhgaaDAwake
import Derived.Test.YtjlbamjebidhgaaDoes2
import Derived.Test.YtjlbamjebidhgaaLaw
import Derived.Deep.CondSized
namespace Go.Proofs.Ytjlbamjebidhgaa.diskActs
open Go.RowKit Own
open Go.ChangeShapes Go.WideShapes Go.ChangeAt

theorem c_does {w0 w : World} {n db rb m : Nat} (h : JS w0 n db rb m w) (hm : m ≤ 16000) (x : ActIn) (hok : ActOk x) (b c : Value) (hb : ReadsB w0 b x.l) (hc : ReadsC w0 c x.cs) :
    Calls Try.prog 15 #[.pointer (some ⟨db, 0, none⟩), .pointer (some ⟨rb, 0, none⟩), .agg #[.int .i64 x.d, .int .i64 x.a, b, .int .u8 (x.x.toNat : Int), c]] w (DoesPost w0 n db rb (m + 1) w) := by
  obtain ⟨Ab, cb, hbv⟩ := hb.slice
  obtain ⟨Ac, cc, hcv⟩ := hc.slice
  have ha := (Law.wf_i64 hok.a).2
  obtain ⟨d, a, l, xx, cs⟩ := x
  simp only [] at *
  by_cases h01 : d = 0 ∨ d = 1
  · rw [hcv]; exact does_write w0 n db rb m d a b l xx _ _ _ w h hm h01 hb hok.l
  · by_cases h2 : d = 2
    · rw [hbv, hcv, h2]; exact does_flush w0 n db rb m a _ _ _ xx _ _ _ w h hm
    · by_cases h3 : d = 3
      · rw [hbv, h3]; exact does_crash w0 n db rb m a _ _ _ xx c cs w h hm hc hok.cs
      · by_cases h4 : d = 4
        · rw [hbv, hcv, h4]; exact does_rot w0 n db rb m a _ _ _ xx _ _ _ w h ha
        · rw [hbv, hcv]; exact does_other w0 n db rb m d a _ _ _ xx _ _ _ w h ⟨fun e => h01 (.inl e), fun e => h01 (.inr e), h2, h3, h4⟩

def rdK (n : Nat) (a : Int) : Int := if inB n a = true then 0 else 1
def rdL (n : Nat) (a : Int) (SS : List (List UInt8)) (Q : List (Nat × List UInt8)) : List UInt8 := if inB n a = true then readR SS Q a.toNat else []
def RdPost (n : Nat) (a : Int) (SS : List (List UInt8)) (Q : List (Nat × List UInt8)) (w : World) (e : Ending) (w' : World) : Prop := ∃ v, e = .returned (.tuple #[v, .int .i64 (rdK n a)]) ∧ ReadsB w' v (rdL n a SS Q) ∧ Below w.heap.size w w'
theorem c_dread {w0 w : World} {n rb : Nat} {D : DkS} {SS : List (List UInt8)} {Q : List (Nat × List UInt8)} (h : Jo w0 n D rb SS Q w) (hy : Sync n D.S D.P SS Q) (hm : Q.length ≤ 16384) (a : Int) :
    Calls Try.prog 12 #[.pointer (some ⟨D.db, 0, none⟩), .int .i64 a] w (RdPost n a SS Q w) := by
  have hl := P_len hy.q
  unfold RdPost rdK rdL
  cases hi : inB n a with
  | true =>
    have h1' := hi
    simp [inB] at h1'
    obtain ⟨k, rfl⟩ := Int.eq_ofNat_of_zero_le h1'.1
    refine (dk_read_in h.dk (k := k) (by omega) (by omega)).mono ?_
    rintro e w' ⟨v, rfl, hv, hb⟩
    refine ⟨v, rfl, ?_, hb⟩
    rw [hy.read (by omega)] at hv
    exact ReadsB.own hv
  | false =>
    refine (dk_read_out h.dk a hi).mono ?_
    rintro e w' ⟨rfl, rfl⟩
    exact ⟨_, rfl, .inl ⟨rfl, rfl⟩, Below.refl _ _⟩
theorem c_rread {w0 w : World} {n rb : Nat} {D : DkS} {SS : List (List UInt8)} {Q : List (Nat × List UInt8)} (h : Jo w0 n D rb SS Q w) (hlen : SS.length = n) (hm : Q.length ≤ 16384) (a : Int) :
    Calls Try.prog 17 #[.pointer (some ⟨rb, 0, none⟩), .int .i64 a] w (RdPost n a SS Q w) := by
  obtain ⟨sv, pv, hr⟩ := h.rf
  unfold RdPost rdK rdL
  cases hi : inB n a with
  | true =>
    have h1' := hi
    simp [inB] at h1'
    obtain ⟨k, rfl⟩ := Int.eq_ofNat_of_zero_le h1'.1
    refine (rread_in _ rb k sv pv SS Q w hr (by omega) hm).mono ?_
    rintro e w' ⟨v, rfl, hv, hb⟩
    exact ⟨v, rfl, hv, hb⟩
  | false =>
    refine (rread_out _ rb sv pv SS Q a w hr (by rw [hlen]; exact hi)).mono ?_
    rintro e w' ⟨rfl, rfl⟩
    exact ⟨_, rfl, .inl ⟨rfl, rfl⟩, Below.refl _ _⟩
theorem c_ddump {w0 w : World} {n rb : Nat} {D : DkS} {SS : List (List UInt8)} {Q : List (Nat × List UInt8)} (h : Jo w0 n D rb SS Q w) (hy : Sync n D.S D.P SS Q) :
    Calls Try.prog 13 #[.pointer (some ⟨D.db, 0, none⟩)] w (RDumpPost SS w) := by
  refine (dk_dump h.dk).mono ?_
  rintro e w' ⟨v, rfl, hv, hb⟩
  rw [hy.s] at hv
  exact ⟨v, rfl, ReadsB.own hv, hb⟩
theorem c_rdump {w0 w : World} {n rb : Nat} {D : DkS} {SS : List (List UInt8)} {Q : List (Nat × List UInt8)} (h : Jo w0 n D rb SS Q w) (hlen : SS.length = n) (hall : ∀ b ∈ SS, b.length = 64) :
    Calls Try.prog 18 #[.pointer (some ⟨rb, 0, none⟩)] w (RDumpPost SS w) := by
  obtain ⟨sv, pv, hr⟩ := h.rf
  have := h.dk.le
  exact rdump_any _ rb sv pv SS Q w hr (by omega) hall
/-- both counts, at the world behind an act -/
theorem c_pend {w0 w : World} {n db rb m : Nat} (h : JS w0 n db rb m w) : ∃ D SS Q, D.db = db ∧ (Jo w0 n D rb SS Q w ∧ Sync n D.S D.P SS Q ∧ Q.length ≤ m) ∧ Calls Try.prog 16 #[.pointer (some ⟨db, 0, none⟩)] w (fun e w' => e = .returned (.int .i64 Q.length) ∧ w = w') ∧
    ∃ A c, w.cell? ⟨rb, 1, none⟩ = some (.slice A Q.length c) := by
  obtain ⟨D, SS, Q, rfl, h2, h3, h4⟩ := h
  obtain ⟨sv, pv, hr⟩ := h2.rf
  obtain ⟨A, c, rfl⟩ := own_slice hr.pend
  refine ⟨D, SS, Q, rfl, ⟨h2, h3, h4⟩, ?_, A, c, by rw [cell_of_row w rb 1 _ _ _ hr.st]; rfl⟩
  have := dk_pending h2.dk
  rw [P_len h3.q] at this
  exact this
theorem zeros_flat (n : Nat) : zeros (n * 64) = (List.replicate n (zeros 64)).flatten := by
  unfold zeros
  induction n with
  | zero => simp
  | succ n ih =>
    rw [List.replicate_succ, List.flatten_cons, ← ih, List.replicate_append_replicate, show 64 + n * 64 = (n + 1) * 64 by omega]
theorem c_new {w0 w : World} {n : Nat} {D : DkS} (h : Dk w0 n D w) (hS : D.S = zeros (n * 64)) (hP : D.P = []) :
    Calls Try.prog 14 #[.int .i64 n] w fun e w' => ∃ rb, e = .returned (.tuple #[.pointer (some ⟨rb, 0, none⟩), .int .i64 0]) ∧ JS w0 n D.db rb 0 w' := by
  refine (rnew_any n w h.pos h.le).mono ?_
  rintro e w' ⟨rb, rfl, ⟨sv, hr⟩, hb⟩
  have hB := h.below.size
  refine ⟨rb, rfl, D, _, [], rfl, ⟨h.go hb, sv, .slice none 0 0, Nat.le_trans hB hr.hB, hr.st, own_mono hr.safe hB, own_mono hr.pend hB⟩, ⟨by simp, fun b hb => by rw [(List.mem_replicate.1 hb).2]; rfl, by rw [hS, zeros_flat], by rw [hP]; rfl, fun q hq => by cases hq⟩, Nat.le_refl _⟩

theorem walk_no (s : Int) (v : Value) (w : World) (hs : s < 1 ∨ 4096 < s) :
    Calls Try.prog 5 #[.int .i64 s, v] w fun e w' => e = .returned (.bool true) ∧ Below w.heap.size w w' := by
  have H1 := Lib.hid (fun w => new_out s w hs)
  have H2 := Lib.hid (fun w => rnew_out s w hs)
  clear hs
  go_enter Try.func5, Try.ntmps5
  go_wp2_with (first
    | (go_at_call 7; refine (H1.out _).mono ?_; rintro e w1 ⟨rfl, rfl⟩)
    | (go_at_call 14; refine (H2.out _).mono ?_; rintro e w1 ⟨rfl, rfl⟩)
    | (go_at_call 9; refine (awake_any _).mono ?_; rintro e w9 ⟨rfl, hb9⟩))
  go_ret
  exact ⟨rfl, hb9⟩
theorem walk_great (n : Nat) (h1 : 300 < n) (h2 : n ≤ 4096) (v : Value) (w : World) :
    Calls Try.prog 5 #[.int .i64 n, v] w fun e w' => e = .returned (.bool true) ∧ Below w.heap.size w w' := by
  have H1 := Lib.hid (dk_new n w (by omega) h2)
  have a1 : (300 : Int) < (n : Int) := by omega
  clear h1 h2
  go_enter Try.func5, Try.ntmps5
  go_wp2_with (first
    | (go_at_call 7; refine H1.out.mono ?_; rintro e w1 ⟨D, rfl, hd, hS, hP⟩; have H2 := Lib.hid (c_new hd hS hP); unfold DkS.ptr; clear hd hS hP)
    | (go_at_call 14; refine H2.out.mono ?_; rintro e w2 ⟨rb, rfl, hj⟩; have HB := Lib.hid hj.below; clear hj)
    | (go_at_call 9; refine (awake_any _).mono ?_; rintro e w9 ⟨rfl, hb9⟩))
  go_ret
  exact ⟨rfl, HB.out.trans (hb9.mono HB.out.size)⟩

set_option maxHeartbeats 4000000 in
set_option maxRecDepth 100000 in
theorem walk_in (n : Nat) (h1 : 1 ≤ n) (h2 : n ≤ 300) (v : Value) (xs : List ActIn) (hok : ∀ x ∈ xs, ActOk x) (w : World) (hv : ReadsActs w v xs) :
    Calls Try.prog 5 #[.int .i64 n, v] w fun e w' => e = .returned (.bool true) ∧ Below w.heap.size w w' := by
  have H1 := Lib.hid (dk_new n w h1 (by omega))
  have a1 : (n : Int) ≤ 300 := by omega
  obtain ⟨Av, cv, rfl⟩ := hv.slice
  have HV := Lib.hid hv
  have HO := Lib.hid hok
  clear h1 h2 hv hok
  go_enter Try.func5, Try.ntmps5
  go_wp2_with (first
    | (go_at_call 7; refine H1.out.mono ?_; rintro e w1 ⟨D, rfl, hd, hS, hP⟩; have H2 := Lib.hid (c_new hd hS hP); unfold DkS.ptr; clear hd hS hP)
    | (go_at_call 14; refine H2.out.mono ?_; rintro e w2 ⟨rb, rfl, hj⟩; have HS := Lib.hid hj; clear hj H2 H1))
  generalize D.db = db at *
  go_loopw [9] (fun i wr => ∃ j : Nat, i = .int .i64 j ∧ j ≤ 400 ∧ j ≤ xs.length ∧ Hid (JS w n db rb j wr)) (fun i _ => xs.length - (intOf i).toNat)
  case atStart => exact ⟨0, rfl, Nat.zero_le _, Nat.zero_le _, HS⟩
  case round =>
    obtain ⟨j, rfl, hj4, hjk, HJ⟩ := hrel
    obtain ⟨wL, rfl⟩ : ∃ wo : World, wo = wr := ⟨_, rfl⟩
    clear HS
    by_cases hj : j < xs.length ∧ j < 400
    · have hj1 : (j : Int) < (xs.length : Int) := by omega
      have hj2 : (j : Int) < 400 := by omega
      have hj0 : (0 : Int) ≤ (j : Int) := by omega
      obtain ⟨bb, off, cc, hvv, hact⟩ := HV.out.at_ hj.1
      cases hvv
      have hxo := HO.out _ (List.getElem_mem hj.1)
      generalize xs[j]'hj.1 = x at *
      obtain ⟨dv, dc, e0', e1', e2', e3', e4', hrd, hrc⟩ := hact
      have hlt : bb < w.heap.size := World.block_lt_of_cell? w _ e0'
      have HC : Hid (∀ w', Below w.heap.size w w' → w'.cell? ⟨bb, off + j * 5, none⟩ = some (.int .i64 x.d) ∧ w'.cell? ⟨bb, off + j * 5 + 1, none⟩ = some (.int .i64 x.a) ∧ w'.cell? ⟨bb, off + j * 5 + 2, none⟩ = some dv ∧ w'.cell? ⟨bb, off + j * 5 + 3, none⟩ = some (.int .u8 (x.x.toNat : Int)) ∧ w'.cell? ⟨bb, off + j * 5 + 4, none⟩ = some dc) := fun w' hb =>
        ⟨(hb.cell (p := ⟨bb, off + j * 5, none⟩) hlt).trans e0', (hb.cell (p := ⟨bb, off + j * 5 + 1, none⟩) hlt).trans e1', (hb.cell (p := ⟨bb, off + j * 5 + 2, none⟩) hlt).trans e2', (hb.cell (p := ⟨bb, off + j * 5 + 3, none⟩) hlt).trans e3', (hb.cell (p := ⟨bb, off + j * 5 + 4, none⟩) hlt).trans e4'⟩
      have HD := Lib.hid (c_does (HJ.out.go (w' := wL.drew) ⟨rfl, rfl, rfl, Nat.le_refl _, fun _ _ => rfl⟩) (by omega) x hxo dv dc hrd hrc)
      obtain ⟨e0, e1, e2, e3, e4⟩ := HC.out wL HJ.out.below
      clear HJ hrd hrc e0' e1' e2' e3' e4' hlt hxo
      go_wp2_with fail
      go_region_with (first
        | (go_at_call 15; (with_reducible refine HD.out.mono ?_); rintro e w5 ⟨rfl, hjs⟩; obtain ⟨f0, f1, f2, f3, f4⟩ := HC.out w5 hjs.below; obtain ⟨D2, SS2, Q2, hdb2, hst, hpd, pA2, pc2, hpc⟩ := c_pend hjs; have HPd := Lib.hid hpd; have HST := Lib.hid hst; have HDB := Lib.hid hdb2; have hqq : ((Q2.length : Int) != (Q2.length : Int)) = false := (by simp); clear hjs hpd hst hdb2)
        | (go_at_call 16; (with_reducible refine HPd.out.mono ?_); rintro e w6 ⟨rfl, rfl⟩))
      all_goals
        have HRd := Lib.hid (c_dread HST.out.1 HST.out.2.1 (by have := HST.out.2.2; omega) x.a)
        rw [HDB.out] at HRd
        have HRr : Hid (∀ w', Below w5.heap.size w5 w' → Calls Try.prog 17 #[.pointer (some ⟨rb, 0, none⟩), .int .i64 x.a] w' (RdPost n x.a SS2 Q2 w')) := fun w' hb => c_rread (HST.out.1.go hb) HST.out.2.1.len (by have := HST.out.2.2; omega) x.a
        have hrk : (rdK n x.a != rdK n x.a) = false := by simp
        clear HC f0 f2 f3 f4 hpc HPd
        go_wp2_with (first
          | (go_at_call 12; refine HRd.out.mono ?_; rintro e w6 ⟨v6, rfl, hv6, hb6⟩; have g1 := (hb6.cell (p := ⟨bb, off + j * 5 + 1, none⟩) (World.block_lt_of_cell? w5 _ f1)).trans f1; obtain ⟨A6, c6, rfl⟩ := hv6.slice; have HV6 := Lib.hid hv6; have HB6 := Lib.hid hb6; clear hv6 hb6 HRd)
          | (go_at_call 17; refine (HRr.out w6 HB6.out).mono ?_; rintro e w7 ⟨v7, rfl, hv7, hb7⟩; obtain ⟨A7, c7, rfl⟩ := hv7.slice; have hc6 := conv_reads (HV6.out.below hb7); have hc7 := conv_reads hv7; have HN : Hid (JS w n db rb (j + 1) w7) := (by obtain ⟨q1, q2, q3⟩ := HST.out; exact ⟨D2, SS2, Q2, HDB.out, (q1.go HB6.out).go hb7, q2, q3⟩); clear hv7 hb7 HRr))
        go_roundw
        case rel => exact ⟨j + 1, by go_num, by omega, by omega, HN⟩
        case measure => simp [intOf]; omega
    · have hx : ¬ (j : Int) < (xs.length : Int) ∨ ((j : Int) < (xs.length : Int) ∧ ¬ (j : Int) < 400) := by omega
      obtain ⟨D, SS, Q, rfl, q1, q2, q3⟩ := HJ.out
      have HD : Hid (∀ w', Below wL.heap.size wL w' → Calls Try.prog 13 #[.pointer (some ⟨D.db, 0, none⟩)] w' (RDumpPost SS w')) := fun w' hb => c_ddump (q1.go hb) q2
      have HR : Hid (∀ w', Below wL.heap.size wL w' → Calls Try.prog 18 #[.pointer (some ⟨rb, 0, none⟩)] w' (RDumpPost SS w')) := fun w' hb => c_rdump (q1.go hb) q2.len q2.all
      have HZ : Hid (∀ w', Below wL.heap.size wL w' → Calls Try.prog 19 #[.pointer (some ⟨D.db, 0, none⟩)] w' (fun e w'' => e = .returned (.int .i64 n) ∧ w' = w'')) := fun w' hb => dk_size (q1.dk.go hb)
      have HB0 : Hid (Below wL.heap.size wL wL.drew) := ⟨rfl, rfl, rfl, Nat.le_refl _, fun _ _ => rfl⟩
      have HBL := Lib.hid q1.dk.below
      have hnn : ((n : Int) == (n : Int)) = true := by simp
      clear hj HJ q1 q2 q3
      generalize D.db = db at *
      rcases hx with h1 | ⟨h1, h2⟩
      all_goals
        go_wp2_with fail
        go_region_with (first
          | (go_at_call 13; (with_reducible refine (HD.out wL.drew HB0.out).mono ?_); rintro e wA ⟨vA, rfl, hvA, hbA⟩; obtain ⟨AA, cA, rfl⟩ := hvA.slice; have hcA := conv_reads hvA; have HVA := Lib.hid hvA; have HBA := Lib.hid (HB0.out.trans hbA); clear hvA hbA)
          | (go_at_call 18; (with_reducible refine (HR.out wL.drew HB0.out).mono ?_); rintro e wB ⟨vB, rfl, hvB, hbB⟩; obtain ⟨AB, cB, rfl⟩ := hvB.slice; have hcB := conv_reads hvB; have HVB := Lib.hid hvB; have HBB := Lib.hid (HB0.out.trans hbB); clear hvB hbB)
          | (go_at_call 18; (with_reducible refine (HR.out wA HBA.out).mono ?_); rintro e wB ⟨vB, rfl, hvB, hbB⟩; obtain ⟨AB, cB, rfl⟩ := hvB.slice; have hcB := conv_reads hvB; have hcA2 := conv_reads (HVA.out.below hbB); have HBF := Lib.hid (HBA.out.trans (hbB.mono HBA.out.size)); clear hvB hbB)
          | (go_at_call 13; (with_reducible refine (HD.out wB HBB.out).mono ?_); rintro e wA ⟨vA, rfl, hvA, hbA⟩; obtain ⟨AA, cA, rfl⟩ := hvA.slice; have hcA := conv_reads hvA; have hcB2 := conv_reads (HVB.out.below hbA); have HBF := Lib.hid (HBB.out.trans (hbA.mono HBB.out.size)); clear hvA hbA)
          | (go_at_call 19; (with_reducible refine (HZ.out _ HBF.out).mono ?_); rintro e w8 ⟨rfl, rfl⟩)
          | (go_at_call 9; refine (awake_any _).mono ?_; rintro e w9 ⟨rfl, hb9⟩))
        all_goals
          go_wp2_with fail
          go_ret
          exact ⟨rfl, (HBL.out.trans (HBF.out.mono HBL.out.size)).trans (hb9.mono (Nat.le_trans HBL.out.size HBF.out.size))⟩

theorem walk (s : Int) (v : Value) (xs : List ActIn) (hok : ∀ x ∈ xs, ActOk x) (w : World) (hv : ReadsActs w v xs) :
    Calls Try.prog 5 #[.int .i64 s, v] w fun e w' => e = .returned (.bool true) ∧ Below w.heap.size w w' := by
  by_cases h : s < 1 ∨ 4096 < s
  · exact walk_no s v w h
  · obtain ⟨n, rfl⟩ := Int.eq_ofNat_of_zero_le (show 0 ≤ s by omega)
    by_cases h3 : 300 < n
    · exact walk_great n h3 (by omega) v w
    · exact walk_in n (by omega) (by omega) v xs hok w hv

set_option maxRecDepth 100000 in
theorem lifted (os : Os) (started : os.Started) (H : Type) (enc : TypeId × Value → H) :
    ReturnsInHanded {} Try.checked os 5 .any (Rows.diskActsSpec.pre6 enc Try.prog Try.f5 Rows.diskActsRow.domain false) (Rows.diskActsSpec.post enc Try.prog Try.f5 false true false false) := by
  refine returnsInHanded_of_change_sized (C := Try.checked) Law.own started (by kernel_rfl) Try.func5
    (ChangeSpec.witness6 (enc := enc) (C := Try.checked) false ⟨#[], #[.int .i64 0, .slice none 0 0], []⟩ 8 (by kernel_rfl) (by kernel_rfl) (by kernel_rfl) (by kernel_rfl)) ?_
  intro W base args ds gs before hval0 hW hcnd hsz _
  have hval : ∀ (j : Nat) t v, Try.f5.params[j]? = some t → args[j]? = some v → Value.okWide Try.prog W .any base t v := hval0
  have hW' := hW
  obtain ⟨p, q, hA0, hV, rfl, hfz, hnd⟩ := hW
  have hA : DataW.TrodAll enc Try.prog W 0 (fun _ => true) true Try.f5.params.toList args.toList ds p := hA0
  rw [Try.params5] at hA hval
  obtain ⟨v0, vs0, d0, ds0, p0, q0, hargs, rfl, rfl, h0, r0⟩ := trodAll_cons hA
  obtain ⟨v1, vs1, d1, ds1, p1, q1, rfl, rfl, rfl, h1, r1⟩ := trodAll_cons r0
  obtain ⟨rfl, rfl, rfl⟩ := trodAll_nil r1
  obtain rfl : args = #[v0, v1] := by cases args; simp_all
  obtain ⟨rfl, rfl⟩ := trodVars_none hV
  obtain ⟨a0, rfl, rfl, rfl, w1⟩ := open_int Try.underlying3 (hval 0 3 v0 rfl rfl) h0
  obtain ⟨xs, hrd, hok, _⟩ := open_acts (hval 1 22 v1 rfl rfl) h1 (fun y hy => by
    have := List.all_eq_true.1 hsz y (DataW.weights_mem_each (j := 1) rfl rfl y hy)
    simpa using this)
  exact (walk a0 v1 xs hok W hrd).mono fun e W' ⟨he, hb⟩ => ⟨_, he, Law.post hW' (by kernel_rfl) rfl rfl (by kernel_rfl) hb⟩

theorem proved : Rows.DiskActsSaid :=
  OpenClaim.holds_of_wide 5 Try.f5 rfl rfl rfl rfl rfl rfl rfl ⟨rfl, rfl, rfl, rfl, rfl⟩ rfl rfl rfl rfl rfl (by kernel_rfl) Try.func5 (by kernel_rfl)
    (of_decide_eq_true (by kernel_rfl)) (by unfold Func.isWrapper; first | (rw [if_pos (by decide +kernel)]; kernel_rfl) | (rw [if_neg (by decide +kernel)]; exact ⟨rfl, rfl⟩))
    (fun os started H enc _ => lifted os started H enc)
#print axioms proved
end Go.Proofs.Ytjlbamjebidhgaa.diskActs
