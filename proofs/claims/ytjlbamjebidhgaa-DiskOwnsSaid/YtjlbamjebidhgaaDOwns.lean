/- DiskOwns: the walk and the row. -/
import Derived.Test.YtjlbamjebidhgaaDAwake
import Derived.Test.YtjlbamjebidhgaaBytesIn
import Derived.Test.YtjlbamjebidhgaaTurn
import Derived.Test.YtjlbamjebidhgaaLaw
import Derived.Deep.CondSized
namespace Go.Proofs.Ytjlbamjebidhgaa.diskOwns
open Go.RowKit Own
open Go.ChangeShapes Go.WideShapes Go.ChangeAt

/-- the disk, a row of bytes that is being turned, and rows that are not -/
structure St (w0 : World) (D : DkS) (v : Value) (l : List UInt8) (j : Nat) (R : List (Value × List UInt8)) (w : World) : Prop where
  dk : Dk w0 4 D w
  own : w.ownsRow w0.heap.size 5 1 v l.length (turned l j)
  far : ∀ g, v.ownBlock = some g → ¬ D.mine g
  rest : ∀ r ∈ R, Far w0 D r.1 r.2 w ∧ ∀ g, v.ownBlock = some g → r.1.ownBlock ≠ some g
theorem St.step {w0 w : World} {D : DkS} {v : Value} {l : List UInt8} {j : Nat} {R : List (Value × List UInt8)} (h : St w0 D v l j R w) (hj : j < l.length) :
    ∃ g cap x, v = .slice (some ⟨g, 0, none⟩) l.length cap ∧ l.length ≤ cap ∧ x = ((l[j]'hj).toNat : Int) ∧ w.cell? ⟨g, j, none⟩ = some (.int .u8 x) ∧ w.frozen? ⟨g, j, none⟩ = false ∧
      St w0 D v l (j + 1) R (w.setCell ⟨g, j, none⟩ (.int .u8 ((x + 1) % 256))) := by
  obtain ⟨g, cap, rfl, hg, hlt, hcap, hcell, hfz, cur, hh⟩ := own_reads h.own (by omega)
  refine ⟨g, cap, _, rfl, hcap, rfl, by rw [hcell j hj, turned_at l j hj], hfz j, h.dk.setFar hg (h.far g rfl) j _, ?_, h.far, fun r hr => ⟨⟨?_, (h.rest r hr).1.far⟩, (h.rest r hr).2⟩⟩
  · rw [← turned_set l j hj]
    exact own_set h.own _
  · exact own_same (h.rest r hr).1.own fun k hk => Below.heap_setCell _ _ _ _ (by rintro rfl; exact (h.rest r hr).2 _ rfl hk)
theorem St.start {w0 w w' : World} {D : DkS} {v : Value} {l : List UInt8} {R : List (Value × List UInt8)} (hd : Dk w0 4 D w) (hR : ∀ r ∈ R, Far w0 D r.1 r.2 w) (hb : Below w.heap.size w w') (hv : w'.ownsRow w.heap.size 5 1 v l.length (u8s l)) : St w0 D v l 0 R w' := by
  have hf := Far.new hd hv
  refine ⟨hd.go hb, by rw [turned_zero]; exact hf.own, hf.far, fun r hr => ⟨(hR r hr).step (Step.of_below hb), fun g hg hg2 => ?_⟩⟩
  have h1 := ((hR r hr).own.lt g hg2).2
  have h2 := (hv.lt g hg).1
  omega

theorem sector_patch {S b : List UInt8} {k : Nat} (hk : k * 64 + 64 ≤ S.length) (hb : b.length = 64) : sectorOf (patch S k b) k = b := by
  unfold sectorOf patch
  rw [List.append_assoc, List.drop_left' (by rw [List.length_take]; omega), List.take_left' hb]

/-- what is in the disk -/
def Has (D : DkS) (k : Nat) (b : List UInt8) : Prop := readD D.S D.P k = b ∧ D.P.length ≤ 1
theorem c_write {w w1 : World} {D : DkS} (hd : Dk w 4 D w1) (hS : D.S = zeros (4 * 64)) (hP : D.P = []) (k : Nat) (hk : k < 4) (v : Value) (b : List UInt8) (hv : ReadsB w v b) (hb : b.length = 64) :
    Calls Try.prog 8 #[D.ptr, .int .i64 k, v] w1 fun e w' => e = .returned (.int .i64 0) ∧ ∃ D', D'.ptr = D.ptr ∧ Dk w 4 D' w' ∧ Has D' k b ∧ flushD D'.S D'.P = patch (zeros 256) k b := by
  refine (dk_write_in hd v b (hv.below hd.below) hk hb (by rw [hP]; decide)).mono ?_
  rintro e w' ⟨rfl, D', p, hd', hs, hp, hS', hP', rfl, rfl⟩
  refine ⟨rfl, D', hp, hd', ⟨?_, by rw [hP', hP]; simp⟩, ?_⟩
  · rw [hP', hP, readD_snoc, if_pos rfl]
  · rw [hP', hP, hS', hS]; rfl
theorem c_read {w w1 : World} {D : DkS} {R : List (Value × List UInt8)} (hd : Dk w 4 D w1) (hR : ∀ r ∈ R, Far w D r.1 r.2 w1) (k : Nat) (hk : k < 4) (b : List UInt8) (hb : Has D k b) :
    Calls Try.prog 12 #[D.ptr, .int .i64 k] w1 fun e w' => ∃ x, e = .returned (.tuple #[x, .int .i64 0]) ∧ St w D x b 0 R w' ∧ Far w D x b w' := by
  have := hb.2
  refine (dk_read_in hd hk (by omega)).mono ?_
  rintro e w' ⟨x, rfl, hx, hbel⟩
  rw [hb.1] at hx
  exact ⟨x, rfl, St.start hd hR hbel hx, Far.new hd hx⟩
theorem c_flush {w w1 : World} {D : DkS} {y : Value} (hd : Dk w 4 D w1) (k : Nat) (hk : k < 4) (b : List UInt8) (hbl : b.length = 64) (hb : Has D k b) (hf : flushD D.S D.P = patch (zeros 256) k b) (hy : Far w D y b w1) :
    Calls Try.prog 10 #[D.ptr] w1 fun e w' => e = .returned (.tuple #[]) ∧ ∃ D', D'.ptr = D.ptr ∧ Dk w 4 D' w' ∧ Has D' k b ∧ Far w D' y b w' := by
  have := hb.2
  refine (dk_flush hd (by omega)).mono ?_
  rintro e w' ⟨rfl, D', hd', hs, hp, hS', hP'⟩
  refine ⟨rfl, D', hp, hd', ⟨?_, by rw [hP']; simp⟩, hy.step hs⟩
  rw [hP', hS', hf]
  show sectorOf _ k = b
  exact sector_patch (by rw [zeros_length]; omega) hbl
theorem c_dump {w w1 : World} {D : DkS} {R : List (Value × List UInt8)} (hd : Dk w 4 D w1) (hR : ∀ r ∈ R, Far w D r.1 r.2 w1) :
    Calls Try.prog 13 #[D.ptr] w1 fun e w' => ∃ x, e = .returned x ∧ St w D x D.S 0 R w' := by
  refine (dk_dump hd).mono ?_
  rintro e w' ⟨x, rfl, hx, hbel⟩
  exact ⟨x, rfl, St.start hd hR hbel hx⟩

set_option maxRecDepth 100000 in
theorem walk_out (at_ : Int) (v : Value) (b : List UInt8) (w : World) (hv : ReadsB w v b) (hbad : inB 4 at_ = false ∨ b.length ≠ 64) :
    Calls Try.prog 4 #[.int .i64 at_, v] w fun e w' => e = .returned (.bool true) ∧ Below w.heap.size w w' := by
  have HN := Lib.hid (fun w => dk_new 4 w (by decide) (by decide))
  have HW := Lib.hid (fun (w1 : World) (D : DkS) (hd : Dk w 4 D w1) => dk_write_out hd at_ v b (hv.below hd.below) hbad)
  clear hv hbad
  go_enter Try.func4, Try.ntmps4
  go_wp2_with (first
    | (go_at_call 7; refine (HN.out _).mono ?_; rintro e w1 ⟨D, rfl, hd, hS, hP⟩; have HD := Lib.hid hd; unfold DkS.ptr; clear hd hS hP)
    | (go_at_call 8; refine (HW.out _ _ HD.out).mono ?_; rintro e w2 ⟨rfl, rfl⟩)
    | (go_at_call 9; refine (awake_any _).mono ?_; rintro e w9 ⟨rfl, hb9⟩))
  go_ret
  exact ⟨rfl, HD.out.below.trans (hb9.mono HD.out.below.size)⟩

set_option maxRecDepth 100000 in
theorem walk_in (k : Nat) (hk : k < 4) (v : Value) (b : List UInt8) (w : World) (hv : ReadsB w v b) (hb : b.length = 64) :
    Calls Try.prog 4 #[.int .i64 k, v] w fun e w' => e = .returned (.bool true) ∧ Below w.heap.size w w' := by
  have HN := Lib.hid (fun w => dk_new 4 w (by decide) (by decide))
  have HW := Lib.hid (fun (w1 : World) (D : DkS) (hd : Dk w 4 D w1) (hS : D.S = zeros (4 * 64)) (hP : D.P = []) => c_write hd hS hP k hk v b hv hb)
  have HK := Lib.hid hk
  have HB := Lib.hid hb
  have HV : Hid (∀ w', Below w.heap.size w w' → ReadsB w' v b) := fun w' h => hv.below h
  obtain ⟨Av, cv, rfl⟩ := hv.slice
  clear hv hk hb
  go_enter Try.func4, Try.ntmps4
  go_wp2_with (go_at_call 7; refine (HN.out _).mono ?_; rintro e w1 ⟨D, rfl, hd, hS, hP⟩; have H1 := Lib.hid (HW.out _ D hd hS hP); unfold DkS.ptr; clear hd hS hP)
  unfold DkS.ptr at H1
  refine H1.out.mono ?_
  rintro e w2 ⟨rfl, D2, hp2, hd2, hh2, hf2⟩
  rw [show D.db = D2.db from by simpa [DkS.ptr] using hp2.symm]
  clear H1 hp2 HW HN
  have H1 := Lib.hid (c_read (R := []) hd2 (fun r hr => by cases hr) k HK.out b hh2)
  have HH := Lib.hid hh2
  have HF := Lib.hid hf2
  clear hd2 hh2 hf2
  go_wp2_with fail
  unfold DkS.ptr at H1
  refine H1.out.mono ?_
  rintro e w3 ⟨x, rfl, h3, _⟩
  obtain ⟨Ax, cx, rfl⟩ := own_slice h3.own
  have HS := Lib.hid h3
  clear h3 H1
  go_wp2_with fail
  go_loopw [9] (fun i wr => ∃ j : Nat, i = .int .i64 j ∧ j ≤ b.length ∧ Hid (St w D2 (.slice Ax b.length cx) b j [] wr)) (fun i _ => b.length - (intOf i).toNat)
  case atStart => exact ⟨0, rfl, Nat.zero_le _, HS⟩
  case round =>
    obtain ⟨j, rfl, hjk, HJ⟩ := hrel
    obtain ⟨wL, rfl⟩ : ∃ wo : World, wo = wr := ⟨_, rfl⟩
    have hbm : (b.length : Int) ≤ 64 := by have := HB.out; omega
    by_cases hj : j < b.length
    · have hj' : (j : Int) < (b.length : Int) := by omega
      obtain ⟨g, cap, x, hvv, hcap, hx, hcell, hfz, hnext⟩ := St.step HJ.out hj
      cases hvv
      have HNx := Lib.hid hnext
      clear hnext hx HJ HS
      go_wp2_with fail
      go_roundw
      case rel => exact ⟨j + 1, by go_num, by omega, HNx⟩
      case measure => simp [intOf]; omega
    · obtain rfl : j = b.length := by omega
      clear HS
      have H1 := Lib.hid (c_read (R := []) HJ.out.dk (fun r hr => by cases hr) k HK.out b HH.out)
      clear HJ
      go_wp2_with fail
      unfold DkS.ptr at H1
      refine H1.out.mono ?_
      rintro e w4 ⟨y, rfl, h4, hy4⟩
      obtain ⟨Ay, cy, rfl⟩ := own_slice hy4.own
      have H2 := Lib.hid (c_flush h4.dk k HK.out b HB.out HH.out HF.out hy4)
      clear H1 h4 hy4
      go_wp2_with fail
      unfold DkS.ptr at H2
      refine H2.out.mono ?_
      rintro e w5 ⟨rfl, D5, hp5, hd5, hh5, hy5⟩
      rw [show D2.db = D5.db from by simpa [DkS.ptr] using hp5.symm]
      clear H2 hp5 HH HF
      have HH := Lib.hid hh5
      have H2 := Lib.hid (c_dump (R := [(.slice Ay b.length cy, b)]) hd5 (fun r hr => by obtain rfl := List.mem_singleton.1 hr; exact hy5))
      have hlen : D5.S.length ≤ 256 := by have := hd5.len; omega
      have HLen := Lib.hid hlen
      clear hd5 hh5 hy5 hlen
      go_wp2_with fail
      unfold DkS.ptr at H2
      refine H2.out.mono ?_
      rintro e w6 ⟨z, rfl, h6⟩
      obtain ⟨Az, cz, rfl⟩ := own_slice h6.own
      have HS := Lib.hid h6
      clear H2 h6
      go_wp2_with fail
      go_loopw [13] (fun i wr => ∃ j : Nat, i = .int .i64 j ∧ j ≤ D5.S.length ∧ Hid (St w D5 (.slice Az D5.S.length cz) D5.S j [(.slice Ay b.length cy, b)] wr)) (fun i _ => D5.S.length - (intOf i).toNat)
      case atStart => exact ⟨0, rfl, Nat.zero_le _, HS⟩
      case round =>
        obtain ⟨j, rfl, hjk, HJ⟩ := hrel
        obtain ⟨wL, rfl⟩ : ∃ wo : World, wo = wr := ⟨_, rfl⟩
        have hbm : (D5.S.length : Int) ≤ 256 := by have := HLen.out; omega
        by_cases hj : j < D5.S.length
        · have hj' : (j : Int) < (D5.S.length : Int) := by omega
          obtain ⟨g, cap, x, hvv, hcap, hx, hcell, hfz, hnext⟩ := St.step HJ.out hj
          cases hvv
          have HNx := Lib.hid hnext
          clear hnext hx HJ HS
          go_wp2_with fail
          go_roundw
          case rel => exact ⟨j + 1, by go_num, by omega, HNx⟩
          case measure => simp [intOf]; omega
        · obtain rfl : j = D5.S.length := by omega
          clear HS
          have H1 := Lib.hid (c_read (R := [(.slice Ay b.length cy, b)]) HJ.out.dk (fun r hr => (HJ.out.rest r hr).1) k HK.out b HH.out)
          clear HJ
          go_wp2_with fail
          unfold DkS.ptr at H1
          refine H1.out.mono ?_
          rintro e w7 ⟨u, rfl, h7, hu7⟩
          obtain ⟨Au, cu, rfl⟩ := own_slice hu7.own
          have hcu := conv_reads hu7.reads
          have hcy := conv_reads (h7.rest _ (List.mem_singleton.2 rfl)).1.reads
          have hcb := conv_reads (HV.out _ h7.dk.below)
          have HB7 := Lib.hid h7.dk.below
          simp only [] at hcy
          clear H1 h7 hu7
          go_wp2_with (go_at_call 9; refine (awake_any _).mono ?_; rintro e w9 ⟨rfl, hb9⟩)
          go_ret
          exact ⟨rfl, HB7.out.trans (hb9.mono HB7.out.size)⟩

theorem walk (at_ : Int) (v : Value) (b : List UInt8) (w : World) (hv : ReadsB w v b) :
    Calls Try.prog 4 #[.int .i64 at_, v] w fun e w' => e = .returned (.bool true) ∧ Below w.heap.size w w' := by
  by_cases h : inB 4 at_ = true ∧ b.length = 64
  · obtain ⟨h1, h2⟩ := h
    simp [inB] at h1
    obtain ⟨k, rfl⟩ := Int.eq_ofNat_of_zero_le h1.1
    exact walk_in k (by omega) v b w hv h2
  · refine walk_out at_ v b w hv ?_
    by_cases h1 : inB 4 at_ = true
    · exact .inr fun h2 => h ⟨h1, h2⟩
    · exact .inl (by simpa using h1)

set_option maxRecDepth 100000 in
theorem lifted (os : Os) (started : os.Started) (H : Type) (enc : TypeId × Value → H) :
    ReturnsInHanded {} Try.checked os 4 .any (Rows.diskOwnsSpec.pre6 enc Try.prog Try.f4 Rows.diskOwnsRow.domain false) (Rows.diskOwnsSpec.post enc Try.prog Try.f4 false true false false) := by
  refine returnsInHanded_of_change_sized (C := Try.checked) Law.own started (by kernel_rfl) Try.func4
    (ChangeSpec.witness6 (enc := enc) (C := Try.checked) false ⟨#[], #[.int .i64 0, .slice none 0 0], []⟩ 8 (by kernel_rfl) (by kernel_rfl) (by kernel_rfl) (by kernel_rfl)) ?_
  intro W base args ds gs before hval0 hW hcnd hsz _
  have hval : ∀ (j : Nat) t v, Try.f4.params[j]? = some t → args[j]? = some v → Value.okWide Try.prog W .any base t v := hval0
  have hW' := hW
  obtain ⟨p, q, hA0, hV, rfl, hfz, hnd⟩ := hW
  have hA : DataW.TrodAll enc Try.prog W 0 (fun _ => true) true Try.f4.params.toList args.toList ds p := hA0
  rw [Try.params4] at hA hval
  obtain ⟨v0, vs0, d0, ds0, p0, q0, hargs, rfl, rfl, h0, r0⟩ := trodAll_cons hA
  obtain ⟨v1, vs1, d1, ds1, p1, q1, rfl, rfl, rfl, h1, r1⟩ := trodAll_cons r0
  obtain ⟨rfl, rfl, rfl⟩ := trodAll_nil r1
  obtain rfl : args = #[v0, v1] := by cases args; simp_all
  obtain ⟨rfl, rfl⟩ := trodVars_none hV
  obtain ⟨a0, rfl, rfl, rfl, w1⟩ := open_int Try.underlying3 (hval 0 3 v0 rfl rfl) h0
  obtain ⟨l, hl, hd⟩ := open_bytes (hval 1 23 v1 rfl rfl) h1
  exact (walk a0 v1 l W hl).mono fun e W' ⟨he, hb⟩ => ⟨_, he, Law.post hW' (by kernel_rfl) rfl rfl (by kernel_rfl) hb⟩

theorem proved : Rows.DiskOwnsSaid :=
  OpenClaim.holds_of_wide 4 Try.f4 rfl rfl rfl rfl rfl rfl rfl ⟨rfl, rfl, rfl, rfl, rfl⟩ rfl rfl rfl rfl rfl (by kernel_rfl) Try.func4 (by kernel_rfl)
    (of_decide_eq_true (by kernel_rfl)) (by unfold Func.isWrapper; first | (rw [if_pos (by decide +kernel)]; kernel_rfl) | (rw [if_neg (by decide +kernel)]; exact ⟨rfl, rfl⟩))
    (fun os started H enc _ => lifted os started H enc)
#print axioms proved
end Go.Proofs.Ytjlbamjebidhgaa.diskOwns
