/- The walk of the law's 'does': rot and writes. -/
import Derived.Test.YtjlbamjebidhgaaDoes
namespace Go.Proofs.Ytjlbamjebidhgaa
open Go.RowKit Own

def Box (ob : Nat) (d a : Int) (b : Value) (x : UInt8) (c : Value) (w : World) : Prop := w.heap[ob]? = some (.cells #[Value.int .i64 d, .int .i64 a, b, .int .u8 (x.toNat : Int), c] 31 (0, 0))
theorem Box.c1 {ob : Nat} {d a : Int} {b : Value} {x : UInt8} {c : Value} {w : World} (h : Box ob d a b x c w) : w.cell? ⟨ob, 1, none⟩ = some (.int .i64 a) := by rw [cell_of_row _ _ 1 _ _ _ h]; rfl
theorem Box.c2 {ob : Nat} {d a : Int} {b : Value} {x : UInt8} {c : Value} {w : World} (h : Box ob d a b x c w) : w.cell? ⟨ob, 2, none⟩ = some b := by rw [cell_of_row _ _ 2 _ _ _ h]; rfl
theorem Box.c3 {ob : Nat} {d a : Int} {b : Value} {x : UInt8} {c : Value} {w : World} (h : Box ob d a b x c w) : w.cell? ⟨ob, 3, none⟩ = some (.int .u8 (x.toNat : Int)) := by rw [cell_of_row _ _ 3 _ _ _ h]; rfl
/-- both, and the box of the act -/
def JB (w0 : World) (n : Nat) (D : DkS) (rb : Nat) (SS : List (List UInt8)) (Q : List (Nat × List UInt8)) (ob : Nat) (d a : Int) (b : Value) (x : UInt8) (c : Value) (w : World) : Prop := Jo w0 n D rb SS Q w ∧ Box ob d a b x c w
theorem JB.drew {w0 w : World} {n rb ob : Nat} {D : DkS} {SS : List (List UInt8)} {Q : List (Nat × List UInt8)} {d a : Int} {b c : Value} {x : UInt8} (h : JB w0 n D rb SS Q ob d a b x c w) : JB w0 n D rb SS Q ob d a b x c w.drew :=
  ⟨h.1.go ⟨rfl, rfl, rfl, Nat.le_refl _, fun _ _ => rfl⟩, h.2⟩
theorem JB.step {w0 w w' : World} {n rb ob : Nat} {D D' : DkS} {SS : List (List UInt8)} {Q : List (Nat × List UInt8)} {d a : Int} {b c : Value} {x : UInt8} (h : JB w0 n D rb SS Q ob d a b x c w) (hj : Jo w0 n D' rb SS Q w') (hs : Step D w D' w') : JB w0 n D' rb SS Q ob d a b x c w' :=
  ⟨hj, h.1.dk.keep hs h.2 (by decide)⟩
theorem JB.tstep {w0 w w' : World} {n rb ob : Nat} {D : DkS} {SS SS' : List (List UInt8)} {Q Q' : List (Nat × List UInt8)} {d a : Int} {b c : Value} {x : UInt8} (h : JB w0 n D rb SS Q ob d a b x c w) (hj : Jo w0 n D rb SS' Q' w') (hs : TStep refT w0.heap.size w w') : JB w0 n D rb SS' Q' ob d a b x c w' :=
  ⟨hj, hs.keep h.2 (by decide)⟩
theorem JB.go {w0 w w' : World} {n rb ob : Nat} {D : DkS} {SS : List (List UInt8)} {Q : List (Nat × List UInt8)} {d a : Int} {b c : Value} {x : UInt8} (h : JB w0 n D rb SS Q ob d a b x c w) (hb : Below w.heap.size w w') : JB w0 n D rb SS Q ob d a b x c w' :=
  ⟨h.1.go hb, (hb.block _ (Array.getElem?_eq_some_iff.1 h.2).1).trans h.2⟩

def rotK (n : Nat) (a : Int) : Int := if 0 ≤ a ∧ a < (n : Int) * 64 then 0 else 1
def rotS (n : Nat) (a : Int) (x : UInt8) (S : List UInt8) : List UInt8 := if 0 ≤ a ∧ a < (n : Int) * 64 then S.set a.toNat (S.getD a.toNat 0 ^^^ x) else S
def rotSS (n : Nat) (a : Int) (x : UInt8) (SS : List (List UInt8)) : List (List UInt8) := if 0 ≤ a ∧ a < (n : Int) * 64 then SS.set (a.toNat / 64) ((SS.getD (a.toNat / 64) []).set (a.toNat % 64) ((SS.getD (a.toNat / 64) []).getD (a.toNat % 64) 0 ^^^ x)) else SS

set_option maxRecDepth 100000 in
theorem does_rot (w0 : World) (n db rb m : Nat) (a : Int) (Ab : Option Addr) (nb cb : Nat) (x : UInt8) (Ac : Option Addr) (nc cc : Nat) (w : World) (h : JS w0 n db rb m w) (ha : a ≤ 9223372036854775807) :
    Calls Try.prog 15 #[.pointer (some ⟨db, 0, none⟩), .pointer (some ⟨rb, 0, none⟩), .agg #[.int .i64 4, .int .i64 a, .slice Ab nb cb, .int .u8 (x.toNat : Int), .slice Ac nc cc]] w (DoesPost w0 n db rb (m + 1) w) := by
  obtain ⟨D, SS, Q, rfl, h2, h3, h4⟩ := h
  obtain ⟨O, hO⟩ : ∃ O, O = Obj.cells #[Value.int .i64 4, .int .i64 a, .slice Ab nb cb, .int .u8 (x.toNat : Int), .slice Ac nc cc] 31 := ⟨_, rfl⟩
  have hJ : JB w0 n D rb SS Q w.heap.size 4 a (.slice Ab nb cb) x (.slice Ac nc cc) (w.alloc O) := ⟨h2.go ((Below.refl w.heap.size w).alloc (Nat.le_refl _) O), by rw [hO]; exact heap_alloc_new w _⟩
  have k1 := hJ.2.c1
  have k3 := hJ.2.c3
  have HJ := Lib.hid hJ.drew
  have HR : Hid (∀ SS' w', JB w0 n D rb SS' Q w.heap.size 4 a (.slice Ab nb cb) x (.slice Ac nc cc) w' → Calls Try.prog 20 #[.pointer (some ⟨D.db, 0, none⟩), .int .i64 a, .int .u8 (x.toNat : Int)] w' fun e w'' => e = .returned (.int .i64 (rotK n a)) ∧ ∃ D', D'.db = D.db ∧ JB w0 n D' rb SS' Q w.heap.size 4 a (.slice Ab nb cb) x (.slice Ac nc cc) w'' ∧ D'.P = D.P ∧ D'.S = rotS n a x D.S) := fun SS' w' hj => by
    refine (c_rot hj.1 a x).mono ?_
    rintro e w'' ⟨rfl, D', h1, h2, h3, h4, h5⟩
    exact ⟨rfl, D', h1, hj.step h2 h3, h4, h5⟩
  have HRR : Hid (∀ D' w', JB w0 n D' rb SS Q w.heap.size 4 a (.slice Ab nb cb) x (.slice Ac nc cc) w' → Calls Try.prog 27 #[.pointer (some ⟨rb, 0, none⟩), .int .i64 a, .int .u8 (x.toNat : Int)] w' fun e w'' => e = .returned (.int .i64 (rotK n a)) ∧ JB w0 n D' rb (rotSS n a x SS) Q w.heap.size 4 a (.slice Ab nb cb) x (.slice Ac nc cc) w'') := fun D' w' hj => by
    refine (c_rrot hj.1 h3.len h3.all a x ha).mono ?_
    rintro e w'' ⟨rfl, h1, h2⟩
    exact ⟨rfl, hj.tstep h1 h2⟩
  have HY := Lib.hid (show Sync n (rotS n a x D.S) D.P (rotSS n a x SS) Q from sync_rot h3 a x)
  have HQ := Lib.hid h4
  rw [hO] at HJ k1 k3
  clear h2 h3 h4 hO hJ ha
  generalize rotK n a = rk at *
  have hrk : (rk == rk) = true := by simp
  go_enter Try.func15, Try.ntmps15
  go_wp2_with fail
  go_region_held3 (fun w' => w'.cell? ⟨w.heap.size, 1, none⟩ = some (.int .i64 a) ∧ w'.cell? ⟨w.heap.size, 3, none⟩ = some (.int .u8 (x.toNat : Int))) (go_keep)
    (first
      | (go_at_call 20; (with_reducible refine (HR.out SS _ HJ.out).mono ?_); rintro e wA ⟨rfl, DA, hdbA, hA, hAP, hAS⟩; have f1 := hA.2.c1; have f3 := hA.2.c3; have HA := Lib.hid hA; have HAP := Lib.hid hAP; have HAS := Lib.hid hAS; have HAD := Lib.hid hdbA; clear hA hAP hAS hdbA)
      | (go_at_call 27; (with_reducible refine (HRR.out D _ HJ.out).mono ?_); rintro e wB ⟨rfl, hB⟩; have f1 := hB.2.c1; have f3 := hB.2.c3; have HB := Lib.hid hB; clear hB)
      | (go_at_call 27; (with_reducible refine (HRR.out DA wA HA.out).mono ?_); rintro e wB ⟨rfl, hB⟩; have f1 := hB.2.c1; have f3 := hB.2.c3; have HF : Hid (JS w0 n D.db rb (m + 1) wB) := ⟨DA, _, Q, HAD.out, hB.1, by rw [HAP.out, HAS.out]; exact HY.out, Nat.le_succ_of_le HQ.out⟩; clear hB)
      | (go_at_call 20; (with_reducible refine (HR.out _ wB HB.out).mono ?_); rintro e wA ⟨rfl, DA, hdbA, hA, hAP, hAS⟩; have f1 := hA.2.c1; have f3 := hA.2.c3; have HF : Hid (JS w0 n D.db rb (m + 1) wA) := ⟨DA, _, Q, hdbA, hA.1, by rw [hAP, hAS]; exact HY.out, Nat.le_succ_of_le HQ.out⟩; clear hA hAP hAS hdbA))
  all_goals
    go_wp2_with fail
    go_ret
    exact ⟨rfl, HF.out⟩
/-! ### a write -/
/-- both, the box, and a row that is being turned -/
structure WB (w0 : World) (n : Nat) (D : DkS) (rb : Nat) (SS : List (List UInt8)) (Q : List (Nat × List UInt8)) (ob : Nat) (d a : Int) (b : Value) (x : UInt8) (c : Value) (v : Value) (l : List UInt8) (j : Nat) (w : World) : Prop where
  jb : JB w0 n D rb SS Q ob d a b x c w
  own : w.ownsRow w0.heap.size 5 1 v l.length (turned l j)
  far : ∀ g, v.ownBlock = some g → ¬ D.mine g
theorem WB.step {w0 w : World} {n rb ob : Nat} {D : DkS} {SS : List (List UInt8)} {Q : List (Nat × List UInt8)} {d a : Int} {b c v : Value} {x : UInt8} {l : List UInt8} {j : Nat} (h : WB w0 n D rb SS Q ob d a b x c v l j w) (hj : j < l.length) :
    ∃ g cap y, v = .slice (some ⟨g, 0, none⟩) l.length cap ∧ l.length ≤ cap ∧ y = ((l[j]'hj).toNat : Int) ∧ w.cell? ⟨g, j, none⟩ = some (.int .u8 y) ∧ w.frozen? ⟨g, j, none⟩ = false ∧
      WB w0 n D rb SS Q ob d a b x c v l (j + 1) (w.setCell ⟨g, j, none⟩ (.int .u8 ((y + 1) % 256))) := by
  obtain ⟨g, cap, rfl, hg, hlt, hcap, hcell, hfz, cur, hh⟩ := own_reads h.own (by omega)
  refine ⟨g, cap, _, rfl, hcap, rfl, by rw [hcell j hj, turned_at l j hj], hfz j, ⟨h.jb.1.setFar hg (h.far g rfl) hh j _, (Below.heap_setCell _ _ _ _ ?_).trans h.jb.2⟩, ?_, h.far⟩
  · rintro e
    have := h.jb.2
    unfold Box at this
    rw [e, hh] at this; cases this
  · rw [← turned_set l j hj]
    exact own_set h.own _
/-- what a write tells -/
def wrK (n : Nat) (a : Int) (l : List UInt8) : Int := if inB n a = true ∧ l.length = 64 then 0 else 1
theorem c_write {w0 w : World} {n rb ob : Nat} {D : DkS} {SS : List (List UInt8)} {Q : List (Nat × List UInt8)} {d a : Int} {b c v : Value} {x : UInt8} {l : List UInt8} (h : WB w0 n D rb SS Q ob d a b x c v l 0 w) (hP : D.P.length < 16384) :
    Calls Try.prog 8 #[D.ptr, .int .i64 a, v] w fun e w' => e = .returned (.int .i64 (wrK n a l)) ∧ ∃ D', D'.db = D.db ∧ WB w0 n D' rb SS Q ob d a b x c v l 0 w' ∧ D'.S = D.S ∧
      ((inB n a = true ∧ l.length = 64 ∧ ∃ p, D'.P = D.P ++ [p] ∧ (p.at_ : Int) = a ∧ p.b = l) ∨ (¬ (inB n a = true ∧ l.length = 64) ∧ D'.P = D.P)) := by
  have hrd : ReadsB w v l := ReadsB.own (by have := h.own; rwa [turned_zero] at this)
  by_cases hin : inB n a = true ∧ l.length = 64
  · obtain ⟨h1, h2⟩ := hin
    have h1' := h1
    simp [inB] at h1'
    obtain ⟨k, rfl⟩ := Int.eq_ofNat_of_zero_le h1'.1
    refine (dk_write_in h.jb.1.dk v l hrd (k := k) (by omega) h2 hP).mono ?_
    rintro e w' ⟨rfl, D', p, hd', hs, hp, hS, hP', hk, hb⟩
    have hf : Far w0 D v l w := ⟨by have := h.own; rwa [turned_zero] at this, h.far⟩
    have hf' := hf.step hs
    refine ⟨by rw [wrK, if_pos ⟨h1, h2⟩], D', by simpa [DkS.ptr] using hp, ⟨h.jb.step (h.jb.1.step hd' hs) hs, by rw [turned_zero]; exact hf'.own, hf'.far⟩, hS, .inl ⟨h1, h2, p, hP', by omega, hb⟩⟩
  · refine (dk_write_out h.jb.1.dk a v l hrd ?_).mono ?_
    · by_cases h1 : inB n a = true
      · exact .inr fun h2 => hin ⟨h1, h2⟩
      · exact .inl (by simpa using h1)
    · rintro e w' ⟨rfl, rfl⟩
      exact ⟨by rw [wrK, if_neg hin], D, rfl, h, rfl, .inr ⟨hin, rfl⟩⟩
theorem c_rwrite {w0 w : World} {n rb m : Nat} {D : DkS} {SS : List (List UInt8)} {Q : List (Nat × List UInt8)} (h : Jo w0 n D rb SS Q w) {S0 : List UInt8} {P0 : List Wr} (hy : Sync n S0 P0 SS Q) (hS : D.S = S0) (a : Int) (l : List UInt8)
    (hP : (inB n a = true ∧ l.length = 64 ∧ ∃ p, D.P = P0 ++ [p] ∧ (p.at_ : Int) = a ∧ p.b = l) ∨ (¬ (inB n a = true ∧ l.length = 64) ∧ D.P = P0)) (b : Value) (hb : ReadsB w b l) (hm : Q.length ≤ m) (hm2 : m ≤ 16000) :
    Calls Try.prog 25 #[.pointer (some ⟨rb, 0, none⟩), .int .i64 a, b] w fun e w' => e = .returned (.int .i64 (wrK n a l)) ∧ JS w0 n D.db rb (m + 1) w' := by
  obtain ⟨sv, pv, hr⟩ := h.rf
  have hlen := hy.len
  rcases hP with ⟨h1, h2, p, hP, hpa, hpb⟩ | ⟨hin, hP⟩
  · have h1' := h1
    simp [inB] at h1'
    obtain ⟨k, rfl⟩ := Int.eq_ofNat_of_zero_le h1'.1
    refine (rwrite_in _ rb k sv pv SS Q l b w hr (by omega) hb h2 (by omega)).mono ?_
    rintro e w' ⟨pv', rfl, hr', ht⟩
    have hk : p.at_ = k := by omega
    refine ⟨by rw [wrK, if_pos ⟨h1, h2⟩], D, SS, Q ++ [(k, l)], rfl, h.tstep ht hr', ?_, by simp; omega⟩
    rw [hS, hP]
    have := hy.write p (by omega) (by rw [hpb]; exact h2)
    rwa [hk, hpb] at this
  · refine (rwrite_out _ rb sv pv SS Q a b l w hr hb ?_).mono ?_
    · rw [hlen]
      by_cases h1 : inB n a = true
      · exact .inr fun h2 => hin ⟨h1, h2⟩
      · exact .inl (by simpa using h1)
    · rintro e w' ⟨rfl, rfl⟩
      exact ⟨by rw [wrK, if_neg hin], D, SS, Q, rfl, h, by rw [hS, hP]; exact hy, by omega⟩

set_option maxRecDepth 100000 in
theorem does_write (w0 : World) (n db rb m : Nat) (d a : Int) (b : Value) (l : List UInt8) (x : UInt8) (Ac : Option Addr) (nc cc : Nat) (w : World) (h : JS w0 n db rb m w) (hm : m ≤ 16000) (hd : d = 0 ∨ d = 1) (hb : ReadsB w0 b l) (hl : l.length ≤ 140737488351232) :
    Calls Try.prog 15 #[.pointer (some ⟨db, 0, none⟩), .pointer (some ⟨rb, 0, none⟩), .agg #[.int .i64 d, .int .i64 a, b, .int .u8 (x.toNat : Int), .slice Ac nc cc]] w (DoesPost w0 n db rb (m + 1) w) := by
  obtain ⟨D, SS, Q, rfl, h2, h3, h4⟩ := h
  obtain ⟨Ab, cb, rfl⟩ := hb.slice
  obtain ⟨O, hO⟩ : ∃ O, O = Obj.cells #[Value.int .i64 d, .int .i64 a, .slice Ab l.length cb, .int .u8 (x.toNat : Int), .slice Ac nc cc] 31 := ⟨_, rfl⟩
  have hJ : JB w0 n D rb SS Q w.heap.size d a (.slice Ab l.length cb) x (.slice Ac nc cc) (w.alloc O) := ⟨h2.go ((Below.refl w.heap.size w).alloc (Nat.le_refl _) O), by rw [hO]; exact heap_alloc_new w _⟩
  obtain ⟨ov, wA, hap, hown, hbA⟩ := own_copy _ l (w.alloc O) (hb.below hJ.1.dk.below) hl
  have k2 : ((w.alloc O).alloc (.cells #[] 5)).cell? ⟨w.heap.size, 2, none⟩ = some (.slice Ab l.length cb) := (hJ.go ((Below.refl _ _).alloc (Nat.le_refl _) _)).2.c2
  have hJA := hJ.go hbA
  have hW : WB w0 n D rb SS Q w.heap.size d a (.slice Ab l.length cb) x (.slice Ac nc cc) ov l 0 wA := by
    have hf := Far.new hJ.1.dk hown
    exact ⟨hJA, by rw [turned_zero]; exact hf.own, hf.far⟩
  have k1 := hW.jb.2.c1
  have hl1 := P_len h3.q
  have HC := Lib.hid (c_write hW (by omega))
  have HY := Lib.hid h3
  have HQ := Lib.hid h4
  have HM := Lib.hid hm
  have HB : Hid (∀ w', Below w0.heap.size w0 w' → ReadsB w' (.slice Ab l.length cb) l) := fun w' hw => hb.below hw
  have hsz1 : (w.alloc O).heap.size = w.heap.size + 1 := by simp
  rw [hsz1] at hap
  obtain ⟨Ao, co, rfl⟩ := own_slice hown
  unfold DkS.ptr at HC
  have hlm : (l.length : Int) ≤ 140737488351232 := by omega
  rw [hO] at hap k2
  have hrk : (wrK n a l == wrK n a l) = true := by simp
  clear h2 h3 h4 hO hm hJ hown hbA hJA hW hl1 hsz1 hb hl
  generalize hK : wrK n a l = rk at *
  have HK := Lib.hid hK
  clear hK
  rcases hd with rfl | rfl
  all_goals
    go_enter Try.func15, Try.ntmps15
    go_wp2_with (first
      | (at_builtin; refine wpList_append_run rfl rfl rfl rfl hap ?_)
      | (go_at_call 8; refine HC.out.mono ?_; rintro e w2 ⟨rfl, D', hdb', hw2, hS2, hP2⟩))
    have HS := Lib.hid hw2
    have HDB := Lib.hid hdb'
    have HS2 := Lib.hid hS2
    have HP2 := Lib.hid hP2
    clear hw2 hdb' hS2 hP2 hap k2 k1 HC
    go_loopw [9] (fun i wr => ∃ j : Nat, i = .int .i64 j ∧ j ≤ l.length ∧ Hid (WB w0 n D' rb SS Q w.heap.size _ a (.slice Ab l.length cb) x (.slice Ac nc cc) (.slice Ao l.length co) l j wr)) (fun i _ => l.length - (intOf i).toNat)
    case atStart => exact ⟨0, rfl, Nat.zero_le _, HS⟩
    case round =>
      obtain ⟨j, rfl, hjk, HJ⟩ := hrel
      obtain ⟨wL, rfl⟩ : ∃ wo : World, wo = wr := ⟨_, rfl⟩
      by_cases hj : j < l.length
      · have hj' : (j : Int) < (l.length : Int) := by omega
        obtain ⟨g, cap, y, hvv, hcap, hy, hcell, hfz, hnext⟩ := WB.step HJ.out hj
        cases hvv
        have HNx := Lib.hid hnext
        clear hnext hy HJ HS
        go_wp2_with fail
        go_roundw
        case rel => exact ⟨j + 1, by go_num, by omega, HNx⟩
        case measure => simp [intOf]; omega
      · obtain rfl : j = l.length := by omega
        have f1 := HJ.out.jb.2.c1
        have f2 := HJ.out.jb.2.c2
        have HR := Lib.hid (c_rwrite (D := D') HJ.out.jb.1 HY.out HS2.out a l HP2.out _ (HB.out _ HJ.out.jb.1.dk.below) HQ.out HM.out)
        rw [HK.out] at HR
        clear HJ HS
        go_wp2_with (go_at_call 25; refine HR.out.mono ?_; rintro e w5 ⟨rfl, hjs⟩)
        go_ret
        exact ⟨rfl, by rw [HDB.out] at hjs; exact hjs⟩
end Go.Proofs.Ytjlbamjebidhgaa
