/- DiskSafe: the walk and the row. -/
import Derived.Test.YtjlbamjebidhgaaDAwake
import Derived.Test.YtjlbamjebidhgaaActs7
import Derived.Test.YtjlbamjebidhgaaLaw
import Derived.Deep.CondSized
namespace Go.Proofs.Ytjlbamjebidhgaa.diskSafe
open Go.RowKit Own
open Go.ChangeShapes Go.WideShapes Go.ChangeAt

theorem sector_patch {S b : List UInt8} {k : Nat} (hk : k * 64 + 64 ≤ S.length) (hb : b.length = 64) : sectorOf (patch S k b) k = b := by
  unfold sectorOf patch
  rw [List.append_assoc, List.drop_left' (by rw [List.length_take]; omega), List.take_left' hb]
theorem sector_other {S b : List UInt8} {j k : Nat} (hj : j * 64 + 64 ≤ S.length) (hb : b.length = 64) (hne : j ≠ k) : sectorOf (patch S j b) k = sectorOf S k := by
  refine List.ext_getElem? fun i => ?_
  unfold sectorOf patch
  simp only [List.getElem?_take, List.getElem?_drop]
  split
  · rename_i hi
    rw [List.append_assoc]
    by_cases h : k < j
    · rw [List.getElem?_append_left (by rw [List.length_take]; omega), List.getElem?_take, if_pos (by omega)]
    · rw [List.getElem?_append_right (by rw [List.length_take]; omega), List.length_take, List.getElem?_append_right (by omega), List.getElem?_drop]
      congr 1
      omega
  · rfl
theorem flushD_snoc (S : List UInt8) (P : List Wr) (p : Wr) : flushD S (P ++ [p]) = patch (flushD S P) p.at_ p.b := by simp [flushD]
theorem crash_sector {k : Nat} {b : List UInt8} : ∀ (P : List Wr) (S : List UInt8) (cs : List Bool), (∀ p ∈ P, p.b.length = 64 ∧ p.at_ * 64 + 64 ≤ S.length ∧ p.at_ ≠ k) → sectorOf S k = b → sectorOf (crashD S P cs) k = b
  | [], _, _, _, h => by rw [crashD]; exact h
  | _ :: _, _, [], _, h => h
  | p :: P, S, c :: cs, hP, h => by
    obtain ⟨h1, h2, h3⟩ := hP p (List.mem_cons_self ..)
    have hl : (if c = true then patch S p.at_ p.b else S).length = S.length := by split; exact patch_length h2 h1; rfl
    rw [crashD]
    refine crash_sector P _ cs (fun q hq => ?_) ?_
    · obtain ⟨q1, q2, q3⟩ := hP q (List.mem_cons_of_mem _ hq)
      exact ⟨q1, by rw [hl]; exact q2, q3⟩
    · split
      · rw [sector_other h2 h1 h3]; exact h
      · exact h

/-- a disk of eight sectors with so many writes at most -/
def D8 (w0 : World) (db m : Nat) (K : DkS → Prop) (w : World) : Prop := ∃ D : DkS, D.db = db ∧ Dk w0 8 D w ∧ D.P.length ≤ m ∧ K D
def All (_ : DkS) : Prop := True
/-- a sector is safe -/
def Sure (k : Nat) (b : List UInt8) (D : DkS) : Prop := sectorOf D.S k = b ∧ ∀ p ∈ D.P, p.at_ ≠ k

theorem c_write {w0 w : World} {db m : Nat} {K : DkS → Prop} (h : D8 w0 db m K w) (hm : m < 16384) (at_ : Int) (v : Value) (l : List UInt8) (hv : ReadsB w v l) (hK : ∀ D D' : DkS, K D → D'.S = D.S → (D'.P = D.P ∨ ∃ p, D'.P = D.P ++ [p] ∧ (p.at_ : Int) = at_) → K D') :
    Calls Try.prog 8 #[.pointer (some ⟨db, 0, none⟩), .int .i64 at_, v] w fun e w' => ∃ r, e = .returned (.int .i64 r) ∧ D8 w0 db (m + 1) K w' := by
  obtain ⟨D, rfl, hd, hP, hk⟩ := h
  by_cases hin : inB 8 at_ = true ∧ l.length = 64
  · obtain ⟨h1, h2⟩ := hin
    simp [inB] at h1
    obtain ⟨k, rfl⟩ := Int.eq_ofNat_of_zero_le h1.1
    refine (dk_write_in hd v l hv (by omega : k < 8) h2 (by omega)).mono ?_
    rintro e w' ⟨rfl, D', p, hd', hs, hp, hS, hP', rfl, rfl⟩
    exact ⟨0, rfl, D', by simpa [DkS.ptr] using hp, hd', by rw [hP']; simp; omega, hK D D' hk hS (.inr ⟨p, hP', rfl⟩)⟩
  · refine (dk_write_out hd at_ v l hv ?_).mono ?_
    · by_cases h1 : inB 8 at_ = true
      · exact .inr fun h2 => hin ⟨h1, h2⟩
      · exact .inl (by simpa using h1)
    · rintro e w' ⟨rfl, rfl⟩
      exact ⟨1, rfl, D, rfl, hd, by omega, hk⟩
theorem c_crash {w0 w : World} {db m k : Nat} {b : List UInt8} (h : D8 w0 db m (Sure k b) w) (hm : m < 16384) (v : Value) (cs : List Bool) (hv : ReadsC w v cs) (hf : ∀ a n c, v = .slice (some a) n c → 0 < n → a.block < w0.heap.size) :
    Calls Try.prog 11 #[.pointer (some ⟨db, 0, none⟩), v] w fun e w' => e = .returned (.tuple #[]) ∧ D8 w0 db (m + 1) (Sure k b) w' := by
  obtain ⟨D, rfl, hd, hP, hk1, hk2⟩ := h
  refine (dk_crash hd v cs hv (fun a n c ha hn hx => by have := (hd.lt hx).1; have := hf a n c ha hn; omega) (by omega)).mono ?_
  rintro e w' ⟨rfl, D', hd', hs, hp, hS, hP'⟩
  refine ⟨rfl, D', by simpa [DkS.ptr] using hp, hd', by rw [hP']; simp, ?_, by rw [hP']; simp⟩
  rw [hS]
  exact crash_sector _ _ _ (fun p hp => ⟨(hd.at_.bytes p hp).2.1, (hd.at_.bytes p hp).2.2.2, hk2 p hp⟩) hk1
theorem c_sure {w0 w : World} {db m : Nat} (h : D8 w0 db m All w) (hm : m < 16384) (k : Nat) (hk : k < 8) (v : Value) (b : List UInt8) (hv : ReadsB w v b) (hb : b.length = 64) :
    Calls Try.prog 8 #[.pointer (some ⟨db, 0, none⟩), .int .i64 k, v] w fun e w' => e = .returned (.int .i64 0) ∧ D8 w0 db (m + 1) (fun D => sectorOf (flushD D.S D.P) k = b) w' := by
  obtain ⟨D, rfl, hd, hP, _⟩ := h
  refine (dk_write_in hd v b hv hk hb (by omega)).mono ?_
  rintro e w' ⟨rfl, D', p, hd', hs, hp, hS, hP', rfl, rfl⟩
  refine ⟨rfl, D', by simpa [DkS.ptr] using hp, hd', by rw [hP']; simp; omega, ?_⟩
  show sectorOf (flushD D'.S D'.P) p.at_ = p.b
  rw [hP', hS, flushD_snoc]
  refine sector_patch ?_ hb
  rw [← flushD_eq, crash_len hd]
  have := hd.len
  omega
theorem c_no {w0 w : World} {db m : Nat} (h : D8 w0 db m All w) (at_ : Int) (v : Value) (b : List UInt8) (hv : ReadsB w v b) (hbad : inB 8 at_ = false ∨ b.length ≠ 64) :
    Calls Try.prog 8 #[.pointer (some ⟨db, 0, none⟩), .int .i64 at_, v] w (ErrSame 1 w) := by
  obtain ⟨D, rfl, hd, hP, _⟩ := h
  exact dk_write_out hd at_ v b hv hbad
theorem c_flush {w0 w : World} {db m k : Nat} {b : List UInt8} (h : D8 w0 db m (fun D => sectorOf (flushD D.S D.P) k = b) w) (hm : m < 16384) :
    Calls Try.prog 10 #[.pointer (some ⟨db, 0, none⟩)] w fun e w' => e = .returned (.tuple #[]) ∧ D8 w0 db 0 (Sure k b) w' := by
  obtain ⟨D, rfl, hd, hP, hk⟩ := h
  refine (dk_flush hd (by omega)).mono ?_
  rintro e w' ⟨rfl, D', hd', hs, hp, hS, hP'⟩
  exact ⟨rfl, D', by simpa [DkS.ptr] using hp, hd', by rw [hP']; simp, by rw [hS]; exact hk, by rw [hP']; simp⟩
theorem c_read {w0 w : World} {db m k : Nat} {b : List UInt8} (h : D8 w0 db m (Sure k b) w) (hm : m < 16384) (hk : k < 8) :
    Calls Try.prog 12 #[.pointer (some ⟨db, 0, none⟩), .int .i64 k] w fun e w' => ∃ x, e = .returned (.tuple #[x, .int .i64 0]) ∧ ReadsB w' x b ∧ Below w0.heap.size w0 w' := by
  obtain ⟨D, rfl, hd, hP, hk1, hk2⟩ := h
  refine (dk_read_in hd hk (by omega)).mono ?_
  rintro e w' ⟨x, rfl, hx, hb⟩
  have hr : readD D.S D.P k = b := by
    unfold readD
    rw [hk1]
    have : ∀ (P : List Wr) (a : List UInt8), (∀ p ∈ P, p.at_ ≠ k) → P.foldl (fun a p => if p.at_ = k then p.b else a) a = a := by
      intro P
      induction P with
      | nil => intro a _; rfl
      | cons p P ih =>
        intro a hp
        simp only [List.foldl_cons]
        rw [if_neg (hp p (List.mem_cons_self ..))]
        exact ih a fun q hq => hp q (List.mem_cons_of_mem _ hq)
    exact this _ _ hk2
  rw [hr] at hx
  exact ⟨x, rfl, ReadsB.own hx, hd.below.trans (hb.mono hd.below.size)⟩
theorem D8.below {w0 w : World} {db m : Nat} {K : DkS → Prop} (h : D8 w0 db m K w) : Below w0.heap.size w0 w := by
  obtain ⟨D, _, hd, _⟩ := h
  exact hd.below
theorem D8.drew {w0 w : World} {db m : Nat} {K : DkS → Prop} (h : D8 w0 db m K w) : D8 w0 db m K w.drew := by
  obtain ⟨D, hdb, hd, r⟩ := h
  exact ⟨D, hdb, hd.go ⟨rfl, rfl, rfl, Nat.le_refl _, fun _ _ => rfl⟩, r⟩

set_option maxHeartbeats 4000000 in
set_option maxRecDepth 100000 in
theorem walk (v vb : Value) (xs : List ActIn) (at_ : Int) (b : List UInt8) (hok : ∀ x ∈ xs, ActOk x) (w : World) (hv : ReadsActs w v xs) (hvb : ReadsB w vb b) (hxl : xs.length ≤ 140737488351232) (hbl : b.length ≤ 140737488351232) :
    Calls Try.prog 3 #[v, .int .i64 at_, vb] w fun e w' => e = .returned (.bool true) ∧ Below w.heap.size w w' := by
  have HN := Lib.hid (fun w => dk_new 8 w (by decide) (by decide))
  obtain ⟨Av, cv, rfl⟩ := hv.slice
  obtain ⟨Ab, cb, rfl⟩ := hvb.slice
  have HV := Lib.hid hv
  have HVB := Lib.hid hvb
  have HO := Lib.hid hok
  have hxm : (xs.length : Int) ≤ 140737488351232 := by omega
  have hbm : (b.length : Int) ≤ 140737488351232 := by omega
  clear hv hvb hok
  go_enter Try.func3, Try.ntmps3
  go_wp2_with (go_at_call 7; refine (HN.out _).mono ?_; rintro e w1 ⟨D, rfl, hd, hS, hP⟩; have HS : Hid (D8 w D.db 0 All w1) := ⟨D, rfl, hd, by rw [hP]; simp, trivial⟩; unfold DkS.ptr; clear hd hS hP)
  generalize D.db = db at *
  clear HN
  go_loopw [9] (fun i wr => ∃ j : Nat, i = .int .i64 j ∧ j ≤ 200 ∧ 2 * j ≤ xs.length ∧ Hid (D8 w db j All wr)) (fun i _ => 200 - (intOf i).toNat)
  case atStart => exact ⟨0, rfl, Nat.zero_le _, Nat.zero_le _, HS⟩
  case round =>
    obtain ⟨j, rfl, hj2, hjk, HJ⟩ := hrel
    obtain ⟨wL, rfl⟩ : ∃ wo : World, wo = wr := ⟨_, rfl⟩
    clear HS
    by_cases hj : j < xs.length / 2 ∧ j < 200
    · have hj1 : (j : Int) < (xs.length : Int) / 2 := by omega
      have hj3 : (j : Int) < 200 := by omega
      have hj0 : (0 : Int) ≤ (j : Int) := by omega
      have hj4 : (j : Int) < (xs.length : Int) := by omega
      obtain ⟨bb, off, cc, hvv, hact⟩ := HV.out.at_ (show j < xs.length by omega)
      cases hvv
      generalize xs[j]'(by omega) = x at *
      obtain ⟨dv, dc, e0', e1', e2', e3', e4', hrd, hrc⟩ := hact
      have hlt : bb < w.heap.size := World.block_lt_of_cell? w _ e0'
      have HC : Hid (∀ w', Below w.heap.size w w' → w'.cell? ⟨bb, off + j * 5 + 1, none⟩ = some (.int .i64 x.a) ∧ w'.cell? ⟨bb, off + j * 5 + 2, none⟩ = some dv) := fun w' hb => ⟨(hb.cell (p := ⟨bb, off + j * 5 + 1, none⟩) hlt).trans e1', (hb.cell (p := ⟨bb, off + j * 5 + 2, none⟩) hlt).trans e2'⟩
      obtain ⟨e1, e2⟩ := HC.out wL HJ.out.below
      have HW := Lib.hid (c_write HJ.out.drew (by omega) x.a dv x.l (hrd.below HJ.out.drew.below) (fun _ _ _ _ _ => trivial))
      clear HJ hrd hrc e0' e1' e2' e3' e4' hlt
      go_wp2_with fail
      go_region_held3 (fun w' => w'.cell? ⟨bb, off + j * 5 + 1, none⟩ = some (.int .i64 x.a) ∧ w'.cell? ⟨bb, off + j * 5 + 2, none⟩ = some dv) (go_keep) (first | (go_at_call 8; refine HW.out.mono ?_; rintro e w2 ⟨r, rfl, hn⟩; obtain ⟨f1, f2⟩ := HC.out w2 hn.below; have HNx := Lib.hid hn; clear hn))
      all_goals
        go_wp2_with fail
        go_roundw
        case rel => exact ⟨j + 1, by go_num, by omega, by omega, HNx⟩
        case measure => simp [intOf]; omega
    · have hx : ¬ (j : Int) < (xs.length : Int) / 2 ∨ ((j : Int) < (xs.length : Int) / 2 ∧ ¬ (j : Int) < 200) := by omega
      have hrb : ReadsB wL (.slice Ab b.length cb) b := HVB.out.below HJ.out.below
      clear hj
      by_cases hbad : inB 8 at_ = false ∨ b.length ≠ 64
      · have HW := Lib.hid (c_no HJ.out at_ _ b hrb hbad)
        have hcase : at_ < 0 ∨ (¬ at_ < 0 ∧ (8 : Int) ≤ at_) ∨ (¬ at_ < 0 ∧ ¬ (8 : Int) ≤ at_ ∧ ((b.length : Int) != 64) = true) := by
          rcases hbad with h | h
          · simp [inB] at h; omega
          · have : ((b.length : Int) != 64) = true := bne_iff_ne.2 (by omega)
            by_cases h1 : at_ < 0
            · exact .inl h1
            · by_cases h2 : (8 : Int) ≤ at_
              · exact .inr (.inl ⟨h1, h2⟩)
              · exact .inr (.inr ⟨h1, h2, this⟩)
        have HB := Lib.hid HJ.out.below
        clear hbad hrb HJ
        rcases hx with h1 | ⟨h1, h2⟩ <;> rcases hcase with c1 | ⟨c1, c2⟩ | ⟨c1, c2, c3⟩
        all_goals
          go_wp2_with (first
            | (go_at_call 8; refine HW.out.mono ?_; rintro e w2 ⟨rfl, rfl⟩)
            | (go_at_call 9; refine (awake_any _).mono ?_; rintro e w9 ⟨rfl, hb9⟩))
          go_ret
          exact ⟨rfl, HB.out.trans (hb9.mono HB.out.size)⟩
      · have hin : 0 ≤ at_ ∧ at_ < 8 ∧ b.length = 64 := by
          have h1 : inB 8 at_ = true := by
            cases h : inB 8 at_ with
            | true => rfl
            | false => exact absurd (.inl h) hbad
          simp [inB] at h1
          exact ⟨h1.1, h1.2, Classical.byContradiction fun h => hbad (.inr h)⟩
        obtain ⟨ha0, ha8, hb64⟩ := hin
        obtain ⟨k, rfl⟩ := Int.eq_ofNat_of_zero_le ha0
        have hk : k < 8 := by omega
        have HK := Lib.hid hk
        have HW := Lib.hid (c_sure HJ.out (by omega) k hk _ b hrb hb64)
        have HX := Lib.hid hx
        clear hbad hrb HJ ha0 ha8 hb64 hk hx
        have HXX := HX.out
        rcases HXX with h1 | ⟨h1, h2⟩
        all_goals
          go_wp2_with (first
            | (go_at_call 8; refine HW.out.mono ?_; rintro e w2 ⟨rfl, hn⟩; have HF := Lib.hid (c_flush hn (by omega)); clear hn)
            | (go_at_call 10; refine HF.out.mono ?_; rintro e w3 ⟨rfl, hn⟩; have HS := Lib.hid hn; clear hn))
          clear HW HF
          go_loopw [10] (fun i wr => ∃ m : Nat, i = .int .i64 m ∧ xs.length / 2 ≤ m ∧ m ≤ xs.length ∧ (m ≤ 400 ∨ m = xs.length / 2) ∧ Hid (D8 w db (m - xs.length / 2) (Sure k b) wr)) (fun i _ => xs.length - (intOf i).toNat)
          case atStart => exact ⟨xs.length / 2, by go_num, Nat.le_refl _, by omega, .inr rfl, by rw [Nat.sub_self]; exact HS⟩
          case round =>
            obtain ⟨m, rfl, hm1, hm2, hm3, HJ⟩ := hrel
            obtain ⟨wL, rfl⟩ : ∃ wo : World, wo = wr := ⟨_, rfl⟩
            clear HS
            by_cases hj : m < xs.length ∧ m < 400
            · have hj1 : (m : Int) < (xs.length : Int) := by omega
              have hj3 : (m : Int) < 400 := by omega
              have hj0 : (0 : Int) ≤ (m : Int) := by omega
              obtain ⟨bb, off, cc, hvv, hact⟩ := HV.out.at_ hj.1
              cases hvv
              generalize xs[m]'(by omega) = x at *
              obtain ⟨dv, dc, e0', e1', e2', e3', e4', hrd, hrc⟩ := hact
              have hlt : bb < w.heap.size := World.block_lt_of_cell? w _ e0'
              have HC : Hid (∀ w', Below w.heap.size w w' → w'.cell? ⟨bb, off + m * 5 + 1, none⟩ = some (.int .i64 x.a) ∧ w'.cell? ⟨bb, off + m * 5 + 2, none⟩ = some dv) := fun w' hb => ⟨(hb.cell (p := ⟨bb, off + m * 5 + 1, none⟩) hlt).trans e1', (hb.cell (p := ⟨bb, off + m * 5 + 2, none⟩) hlt).trans e2'⟩
              obtain ⟨e1, e2⟩ := HC.out wL HJ.out.below
              have e0 := (HJ.out.below.cell (p := ⟨bb, off + m * 5, none⟩) hlt).trans e0'
              have e4 := (HJ.out.below.cell (p := ⟨bb, off + m * 5 + 4, none⟩) hlt).trans e4'
              have hle : m - xs.length / 2 < 16384 := by omega
              have hsub : m - xs.length / 2 + 1 = m + 1 - xs.length / 2 := by omega
              by_cases hd3 : x.d = 3
              · have hd3' : (x.d == 3) = true := beq_iff_eq.2 hd3
                have HCr := Lib.hid (c_crash HJ.out hle dc x.cs (hrc.below HJ.out.below) (fun a n c hv hn => hrc.block hv hn))
                rw [hsub] at HCr
                clear hd3 HJ hrd hrc e0' e1' e2' e3' e4' hlt hle hsub
                go_wp2_with (go_at_call 11; refine HCr.out.mono ?_; rintro e w5 ⟨rfl, hn⟩; have HNx := Lib.hid hn; clear hn)
                go_roundw
                case rel => exact ⟨m + 1, by go_num, by omega, by omega, .inl (by omega), HNx⟩
                case measure => simp [intOf]; omega
              · have hd3' : (x.d == 3) = false := beq_eq_false_iff_ne.2 hd3
                by_cases hne : x.a = (k : Int)
                · have hne' : (x.a != (k : Int)) = false := by rw [hne]; simp
                  obtain ⟨D, g1, g2, g3, g4⟩ := HJ.out
                  have HNx : Hid (D8 w db (m + 1 - xs.length / 2) (Sure k b) wL) := ⟨D, g1, g2, by omega, g4⟩
                  clear hd3 HJ hrd hrc e0' e1' e2' e3' e4' hlt hne g1 g2 g3 g4 hle hsub
                  go_wp2_with fail
                  go_roundw
                  case rel => exact ⟨m + 1, by go_num, by omega, by omega, .inl (by omega), HNx⟩
                  case measure => simp [intOf]; omega
                · have hne' : (x.a != (k : Int)) = true := bne_iff_ne.2 hne
                  have HW := Lib.hid (c_write HJ.out.drew hle x.a dv x.l (hrd.below HJ.out.drew.below) (fun D D' hK hS hP => by
                    refine ⟨by rw [hS]; exact hK.1, fun p hp => ?_⟩
                    rcases hP with hP | ⟨q, hP, hq⟩
                    · exact hK.2 p (hP ▸ hp)
                    · rw [hP] at hp
                      rcases List.mem_append.1 hp with hp | hp
                      · exact hK.2 p hp
                      · obtain rfl := List.mem_singleton.1 hp
                        intro h
                        exact hne (by omega)))
                  rw [hsub] at HW
                  clear hd3 HJ hrd hrc e0' e1' e2' e3' e4' hlt hne hle hsub
                  go_wp2_with fail
                  go_region_held3 (fun w' => w'.cell? ⟨bb, off + m * 5 + 1, none⟩ = some (.int .i64 x.a) ∧ w'.cell? ⟨bb, off + m * 5 + 2, none⟩ = some dv) (go_keep) (first | (go_at_call 8; refine HW.out.mono ?_; rintro e w5 ⟨r, rfl, hn⟩; obtain ⟨f1, f2⟩ := HC.out w5 hn.below; have HNx := Lib.hid hn; clear hn))
                  all_goals
                    go_wp2_with fail
                    go_roundw
                    case rel => exact ⟨m + 1, by go_num, by omega, by omega, .inl (by omega), HNx⟩
                    case measure => simp [intOf]; omega
            · have hx : ¬ (m : Int) < (xs.length : Int) ∨ ((m : Int) < (xs.length : Int) ∧ ¬ (m : Int) < 400) := by omega
              have HCr := Lib.hid (c_crash HJ.out (by omega) (.slice none 0 0) [] (.inl ⟨rfl, rfl⟩) (fun a n c hv _ => by cases hv))
              have HM : Hid (m - xs.length / 2 + 1 < 16384) := by show _ < _; omega
              clear hj HJ
              rcases hx with q1 | ⟨q1, q2⟩
              all_goals
                go_wp2_with (first
                  | (go_at_call 11; refine HCr.out.mono ?_; rintro e w5 ⟨rfl, hn⟩; have HR := Lib.hid (c_read hn HM.out HK.out); clear hn)
                  | (go_at_call 12; refine HR.out.mono ?_; rintro e w6 ⟨xv, rfl, hx6, hb6⟩; obtain ⟨Ax, cx, rfl⟩ := hx6.slice; have hcx := conv_reads hx6; have hcb := conv_reads (HVB.out.below hb6); have HB6 := Lib.hid hb6; clear hx6 hb6 HR HCr)
                  | (go_at_call 9; refine (awake_any _).mono ?_; rintro e w9 ⟨rfl, hb9⟩))
                go_ret
                exact ⟨rfl, HB6.out.trans (hb9.mono HB6.out.size)⟩

set_option maxRecDepth 100000 in
theorem lifted (os : Os) (started : os.Started) (H : Type) (enc : TypeId × Value → H) :
    ReturnsInHanded {} Try.checked os 3 .any (Rows.diskSafeSpec.pre6 enc Try.prog Try.f3 Rows.diskSafeRow.domain false) (Rows.diskSafeSpec.post enc Try.prog Try.f3 false true false false) := by
  refine returnsInHanded_of_change_sized (C := Try.checked) Law.own started (by kernel_rfl) Try.func3
    (ChangeSpec.witness6 (enc := enc) (C := Try.checked) false ⟨#[], #[.slice none 0 0, .int .i64 0, .slice none 0 0], []⟩ 8 (by kernel_rfl) (by kernel_rfl) (by kernel_rfl) (by kernel_rfl)) ?_
  intro W base args ds gs before hval0 hW hcnd hsz _
  have hval : ∀ (j : Nat) t v, Try.f3.params[j]? = some t → args[j]? = some v → Value.okWide Try.prog W .any base t v := hval0
  have hW' := hW
  obtain ⟨p, q, hA0, hV, rfl, hfz, hnd⟩ := hW
  have hA : DataW.TrodAll enc Try.prog W 0 (fun _ => true) true Try.f3.params.toList args.toList ds p := hA0
  rw [Try.params3] at hA hval
  obtain ⟨v0, vs0, d0, ds0, p0, q0, hargs, rfl, rfl, h0, r0⟩ := trodAll_cons hA
  obtain ⟨v1, vs1, d1, ds1, p1, q1, rfl, rfl, rfl, h1, r1⟩ := trodAll_cons r0
  obtain ⟨v2, vs2, d2, ds2, p2, q2, rfl, rfl, rfl, h2, r2⟩ := trodAll_cons r1
  obtain ⟨rfl, rfl, rfl⟩ := trodAll_nil r2
  obtain rfl : args = #[v0, v1, v2] := by cases args; simp_all
  obtain ⟨rfl, rfl⟩ := trodVars_none hV
  obtain ⟨xs, hrd, hok, hxl⟩ := open_acts (hval 0 22 v0 rfl rfl) h0 (fun y hy => by
    have := List.all_eq_true.1 hsz y (DataW.weights_mem_each (j := 0) rfl rfl y hy)
    simpa using this)
  obtain ⟨a1, rfl, rfl, rfl, w1⟩ := open_int Try.underlying3 (hval 1 3 v1 rfl rfl) h1
  obtain ⟨l, hl, hd⟩ := open_bytes (hval 2 23 v2 rfl rfl) h2
  have hbl := sized_bytes hd (fun y hy => by
    have := List.all_eq_true.1 hsz y (DataW.weights_mem_each (j := 2) rfl rfl y hy)
    simpa using this)
  exact (walk v0 v2 xs a1 l hok W hrd hl hxl hbl).mono fun e W' ⟨he, hb⟩ => ⟨_, he, Law.post hW' (by kernel_rfl) rfl rfl (by kernel_rfl) hb⟩

theorem proved : Rows.DiskSafeSaid :=
  OpenClaim.holds_of_wide 3 Try.f3 rfl rfl rfl rfl rfl rfl rfl ⟨rfl, rfl, rfl, rfl, rfl⟩ rfl rfl rfl rfl rfl (by kernel_rfl) Try.func3 (by kernel_rfl)
    (of_decide_eq_true (by kernel_rfl)) (by unfold Func.isWrapper; first | (rw [if_pos (by decide +kernel)]; kernel_rfl) | (rw [if_neg (by decide +kernel)]; exact ⟨rfl, rfl⟩))
    (fun os started H enc _ => lifted os started H enc)
#print axioms proved
end Go.Proofs.Ytjlbamjebidhgaa.diskSafe
