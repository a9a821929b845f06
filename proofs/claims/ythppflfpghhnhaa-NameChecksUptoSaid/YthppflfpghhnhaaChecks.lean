/- NameChecks: of every text and every number: how many runes, why it may be no name, and its first ones, as the reference tells them: where text and number are together of bulk at most 2^20. -/
import Derived.Test.YthppflfpghhnhaaRefs
import Derived.Test.YthppflfpghhnhaaHeads
import Derived.JoinedCond
namespace Go.Proofs.Ythppflfpghhnhaa.nameChecks
open Go.ChangeShapes Go.WideShapes Go.ChangeAt Go.RowKit Utf nameHeads
open Go.ChangeMaps (open_string shut_string)

set_option maxRecDepth 100000 in
theorem size_any (n : Nat) (w : World) : Calls Try.prog 20 #[.int .i64 n] w fun e w' => e = .returned (.int .i64 (runeSize n)) ∧ w = w' := by
  by_cases h1 : n < 128
  · have HV : Hid (runeSize n = 1) := by show _ = _; unfold runeSize; rw [if_pos h1]
    have g0 : (n : Int) < 128 := by omega
    clear h1
    go_enter Try.func20, Try.ntmps20
    go_wp2_with fail
    go_ret
    exact ⟨by rw [HV.out]; rfl, rfl⟩
  by_cases h2 : n < 2048
  · have HV : Hid (runeSize n = 2) := by show _ = _; unfold runeSize; rw [if_neg h1, if_pos h2]
    have g0 : ¬ (n : Int) < 128 := by omega
    have g1 : (n : Int) < 2048 := by omega
    clear h1 h2
    go_enter Try.func20, Try.ntmps20
    go_wp2_with fail
    go_ret
    exact ⟨by rw [HV.out]; rfl, rfl⟩
  by_cases h3 : n < 65536
  · have HV : Hid (runeSize n = 3) := by show _ = _; unfold runeSize; rw [if_neg h1, if_neg h2, if_pos h3]
    have g0 : ¬ (n : Int) < 128 := by omega
    have g1 : ¬ (n : Int) < 2048 := by omega
    have g2 : (n : Int) < 65536 := by omega
    clear h1 h2 h3
    go_enter Try.func20, Try.ntmps20
    go_wp2_with fail
    go_ret
    exact ⟨by rw [HV.out]; rfl, rfl⟩
  · have HV : Hid (runeSize n = 4) := by show _ = _; unfold runeSize; rw [if_neg h1, if_neg h2, if_neg h3]
    have g0 : ¬ (n : Int) < 128 := by omega
    have g1 : ¬ (n : Int) < 2048 := by omega
    have g2 : ¬ (n : Int) < 65536 := by omega
    clear h1 h2 h3
    go_enter Try.func20, Try.ntmps20
    go_wp2_with fail
    go_ret
    exact ⟨by rw [HV.out]; rfl, rfl⟩

def sumTo (l : List Nat) (k : Nat) : Nat := ((l.take k).map runeSize).sum
theorem sumTo_succ (l : List Nat) (k : Nat) (h : k < l.length) : sumTo l (k + 1) = sumTo l k + runeSize (l[k]'h) := by
  unfold sumTo
  rw [List.take_succ_eq_append_getElem h, List.map_append, List.sum_append]
  simp only [List.map_cons, List.map_nil, List.sum_cons, List.sum_nil, Nat.add_zero]

set_option maxHeartbeats 1000000 in
theorem rhead_any (s : ByteArray) (n : Int) (w : World) (hs : s.size ≤ 1048576) (hn : -9223372036854775808 ≤ n ∧ n ≤ 9223372036854775807) :
    Calls Try.prog 15 #[.string s, .int .i64 n] w fun e w' => e = .returned (.tuple #[.string (headS s n), .int .i64 (headE s n)]) ∧ Below w.heap.size w w' := by
  have hC := Lib.hid (fun w => runes_any s w hs)
  go_enter Try.func15, Try.ntmps15
  go_wp2_with fail
  refine (hC.out _).mono ?_
  rintro e w1 ⟨hb1, (⟨hno, rfl⟩ | ⟨l, v, hl, rfl, hown⟩)⟩
  · have HV : Hid (headS s n = ⟨#[]⟩ ∧ headE s n = 5) := ⟨by unfold headS; rw [hno]; rfl, by unfold headE; rw [hno]; rfl⟩
    clear hno
    go_wp2_with fail
    go_ret2
    exact ⟨by rw [HV.out.1, HV.out.2]; rfl, hb1⟩
  · have hg : (runes s).isSome = true := by rw [hl]; rfl
    by_cases h0 : n < 0
    · have HV : Hid (headS s n = ⟨#[]⟩ ∧ headE s n = 1) := ⟨by unfold headS; rw [hg, if_neg (by decide), if_pos h0], by unfold headE; rw [hg, if_neg (by decide), if_pos h0]⟩
      clear hg hl hown
      go_wp2_with fail
      go_ret2
      exact ⟨by rw [HV.out.1, HV.out.2]; rfl, hb1⟩
    · have hll := rest_length s 0 l (Nat.zero_le _) hl
      have hsum : ∀ k, sumTo l k = posAt s 0 k := fun k => by rw [posAt_size s k 0 l (Nat.zero_le _) hl, Nat.zero_add]; rfl
      have hle : ∀ k, sumTo l k ≤ s.size := fun k => by rw [hsum]; exact (posAt_le s k 0 l (Nat.zero_le _) hl).2
      have HV : Hid (headS s n = s.extract 0 (sumTo l n.toNat) ∧ headE s n = 0) := ⟨by rw [headS_ok s n hg h0, hsum], by unfold headE; rw [hg, if_neg (by decide), if_neg h0]⟩
      have HLE := Lib.hid hle
      clear hsum hle hg hl
      have hcells : Hid (∀ j (hj : j < l.length), ∃ g, v.ownBlock = some g ∧ (∃ cap, v = .slice (some ⟨g, 0, none⟩) l.length cap) ∧ w1.cell? ⟨g, j, none⟩ = some (.int .i64 ((l[j]'hj : Nat) : Int))) := fun j hj => by
        rcases own_ints hown with ⟨rfl, _⟩ | ⟨_, g, cap, rfl, _, hc⟩
        · cases hj
        · exact ⟨g, rfl, ⟨cap, rfl⟩, hc j hj⟩
      obtain ⟨A, c, rfl⟩ : ∃ A c, v = .slice A l.length c := by
        rcases own_ints hown with ⟨rfl, A, c, rfl⟩ | ⟨_, g, cap, rfl, _⟩
        · exact ⟨A, c, rfl⟩
        · exact ⟨_, cap, rfl⟩
      clear hown
      obtain ⟨N, rfl⟩ := Int.eq_ofNat_of_zero_le (show 0 ≤ n by omega)
      rw [Int.toNat_natCast] at HV
      go_wp2_with fail
      go_loopw [8, 9] (fun a i wr => ∃ k : Nat, wr = w1 ∧ i = .int .i64 k ∧ a = .int .i64 (sumTo l k) ∧ k ≤ l.length ∧ k ≤ N) (fun _ i _ => l.length - (intOf i).toNat)
      case atStart => exact ⟨0, rfl, rfl, rfl, Nat.zero_le _, Nat.zero_le _⟩
      case round =>
        obtain ⟨k, rfl, rfl, rfl, hk, hkN⟩ := hrel
        have hle1 := HLE.out k
        by_cases hlt : k < l.length
        · by_cases hltN : k < N
          · obtain ⟨g, hg1, ⟨cap, hv⟩, hc⟩ := hcells.out k hlt
            cases hv
            have hle2 := HLE.out (k + 1)
            have hsc := sumTo_succ l k hlt
            have hle3 : sumTo l k + runeSize (l[k]'hlt) ≤ s.size := by omega
            have HSC : Hid (sumTo l (k + 1) = sumTo l k + runeSize (l[k]'hlt)) := hsc
            clear hle2 hsc hg1
            generalize l[k]'hlt = x at *
            go_wp2_with (go_at_call 20; refine (size_any _ _).mono ?_; rintro e w' ⟨rfl, rfl⟩)
            go_roundw
            case rel => exact ⟨k + 1, trivial, by go_num, by rw [HSC.out]; go_num, by omega, by omega⟩
            case measure => simp [intOf]; omega
          · obtain rfl : k = N := by omega
            go_wp2_with fail
            go_ret2
            exact ⟨by rw [HV.out.1, HV.out.2]; rfl, hb1⟩
        · have HE : Hid (sumTo l N = sumTo l k) := by
            show _ = _
            unfold sumTo
            rw [List.take_of_length_le (by omega), List.take_of_length_le (by omega)]
          go_wp2_with fail
          go_ret2
          exact ⟨by rw [HV.out.1, HV.out.2, HE.out]; rfl, hb1⟩

theorem bel7 {w w1 w2 w3 w4 w5 w6 w7 : World} (h1 : Below w.heap.size w w1) (h2 : Below w1.heap.size w1 w2) (h3 : Below w2.heap.size w2 w3) (h4 : Below w3.heap.size w3 w4)
    (h5 : Below w4.heap.size w4 w5) (h6 : Below w5.heap.size w5 w6) (h7 : Below w6.heap.size w6 w7) : Below w.heap.size w w7 := by
  have s1 := h1.size
  have s2 := h2.size
  have s3 := h3.size
  have s4 := h4.size
  have s5 := h5.size
  have s6 := h6.size
  exact (((((h1.trans (h2.mono s1)).trans (h3.mono (by omega))).trans (h4.mono (by omega))).trans (h5.mono (by omega))).trans (h6.mono (by omega))).trans (h7.mono (by omega))

theorem walk (s : ByteArray) (n : Int) (w : World) (hs : s.size ≤ 1048576) (hn : -9223372036854775808 ≤ n ∧ n ≤ 9223372036854775807) :
    Calls Try.prog 5 #[.string s, .int .i64 n] w fun e w' => e = .returned (.bool true) ∧ Below w.heap.size w w' := by
  have H1 := Lib.hid (fun w => count_any s w (by omega))
  have H2 := Lib.hid (fun w => runes_any s w hs)
  have H3 := Lib.hid (fun w => head_any s n w hn)
  have H4 := Lib.hid (fun w => rhead_any s n w hs hn)
  have H5 := Lib.hid (fun w => check_any s w (by omega))
  have H6 := Lib.hid (fun w => rcheck_any s w hs)
  generalize headS s n = A at H3 H4
  generalize headE s n = E at H3 H4
  generalize checkE s = D at H5 H6
  cases hr : runes s with
  | none =>
    have hc : countN s = 0 := by unfold countN; rw [hr]
    have H1' : Hid (∀ w, Calls Try.prog 12 #[.string s] w fun e w' => e = .returned (.tuple #[.int .i64 0, .bool false]) ∧ Below w.heap.size w w') := fun w => by
      have := H1.out w
      rw [hc, hr] at this
      exact this
    have HR := Lib.hid hr
    clear H1 hc hr
    go_enter Try.func5, Try.ntmps5
    go_wp2_with fail
    refine (H1'.out _).mono ?_
    rintro e w1 ⟨rfl, hb1⟩
    go_wp2_with fail
    refine (H2.out _).mono ?_
    rintro e w2 ⟨hb2, (⟨_, rfl⟩ | ⟨l, v, hl, rfl, hown⟩)⟩
    · skip
      go_wp2_with fail
      refine (H3.out _).mono ?_
      rintro e w3 ⟨rfl, hb3⟩
      go_wp2_with fail
      refine (H4.out _).mono ?_
      rintro e w4 ⟨rfl, hb4⟩
      go_wp2_with fail
      refine (H5.out _).mono ?_
      rintro e w5 ⟨rfl, hb5⟩
      go_wp2_with fail
      refine (H6.out _).mono ?_
      rintro e w6 ⟨rfl, hb6⟩
      go_wp2_with fail
      refine (awake_any _).mono ?_
      rintro e w7 ⟨rfl, hb7⟩
      go_wp2_with fail
      go_ret
      exact ⟨rfl, bel7 hb1 hb2 hb3 hb4 hb5 hb6 hb7⟩
    · rw [HR.out] at hl; cases hl
  | some l =>
    have hc : countN s = l.length := by unfold countN; rw [hr]
    have H1' : Hid (∀ w, Calls Try.prog 12 #[.string s] w fun e w' => e = .returned (.tuple #[.int .i64 l.length, .bool true]) ∧ Below w.heap.size w w') := fun w => by
      have := H1.out w
      rw [hc, hr] at this
      exact this
    have hll := rest_length s 0 l (Nat.zero_le _) hr
    have HR := Lib.hid hr
    clear H1 hc hr
    go_enter Try.func5, Try.ntmps5
    go_wp2_with fail
    refine (H1'.out _).mono ?_
    rintro e w1 ⟨rfl, hb1⟩
    go_wp2_with fail
    refine (H2.out _).mono ?_
    rintro e w2 ⟨hb2, (⟨hno, rfl⟩ | ⟨l', v, hl, rfl, hown⟩)⟩
    · rw [HR.out] at hno; cases hno
    · obtain rfl : l = l' := by rw [HR.out] at hl; exact Option.some.inj hl
      clear hl
      obtain ⟨A', c, rfl⟩ : ∃ A c, v = .slice A l.length c := by
        rcases own_ints hown with ⟨rfl, A, c, rfl⟩ | ⟨_, g, cap, rfl, _⟩
        · exact ⟨A, c, rfl⟩
        · exact ⟨_, cap, rfl⟩
      clear hown
      go_wp2_with fail
      refine (H3.out _).mono ?_
      rintro e w3 ⟨rfl, hb3⟩
      go_wp2_with fail
      refine (H4.out _).mono ?_
      rintro e w4 ⟨rfl, hb4⟩
      go_wp2_with fail
      refine (H5.out _).mono ?_
      rintro e w5 ⟨rfl, hb5⟩
      go_wp2_with fail
      refine (H6.out _).mono ?_
      rintro e w6 ⟨rfl, hb6⟩
      go_wp2_with fail
      refine (awake_any _).mono ?_
      rintro e w7 ⟨rfl, hb7⟩
      go_wp2_with fail
      go_ret
      exact ⟨rfl, bel7 hb1 hb2 hb3 hb4 hb5 hb6 hb7⟩

theorem short {H : Type} {s : ByteArray} {d : DataW H} (hk : Rows.uptoSmall H [.lit (.string s.data.toList), d] = true) : s.size ≤ 1048576 := by
  have h : Rows.uptoBulkAll [DataW.lit (H := H) (.string s.data.toList), d] ≤ 1048576 := of_decide_eq_true hk
  simp only [Rows.uptoBulkAll, Rows.uptoBulk] at h
  rw [Lib.size_eq]
  omega

set_option maxRecDepth 100000 in
theorem lifted (os : Os) (started : os.Started) (H : Type) (enc : TypeId × Value → H) (F : Stop.Interp) :
    ReturnsInHanded {} Try.checked os 5 .any ((Rows.OpenSpec.upto Rows.nameChecksSpec).pre6 enc Try.prog Try.f5 Rows.nameChecksUptoRow.domain false) (((Rows.OpenSpec.upto Rows.nameChecksSpec).at F).post enc Try.prog Try.f5 false true false false) := by
  refine returnsInHanded_of_cond (C := Try.checked) (s := Rows.OpenSpec.upto Rows.nameChecksSpec) (k := Rows.uptoSmall) rfl Law.own started (by kernel_rfl) Try.func5
    (OpenSpec.witness (enc := enc) (C := Try.checked) (s := Rows.OpenSpec.upto Rows.nameChecksSpec) (k := Rows.uptoSmall) rfl false ⟨#[], #[.string .empty, .int .i64 0], []⟩ 8 (by kernel_rfl) (by kernel_rfl) (by kernel_rfl)
      (x := ([.lit (.string []), .lit (.int .i64 0)], [], [])) (by kernel_rfl) rfl (by kernel_rfl)) ?_
  intro W base args ds gs before hval0 hW hcnd hk _
  have hval : ∀ (j : Nat) t v, Try.f5.params[j]? = some t → args[j]? = some v → Value.okWide Try.prog W .any base t v := hval0
  have hW' := hW
  obtain ⟨p, q, hA0, hV, rfl, hfz, hnd⟩ := hW
  have hA : DataW.TrodAll enc Try.prog W 0 (fun _ => true) true Try.f5.params.toList args.toList ds p := hA0
  rw [Try.params5] at hA hval
  obtain ⟨v0, vs0, d0, ds0, p0, q0, hargs, rfl, rfl, h0, r0⟩ := trodAll_cons hA
  obtain ⟨v1, vs1, d1, ds1, p1, q1, rfl, rfl, rfl, h1, r1⟩ := trodAll_cons r0
  obtain ⟨rfl, rfl, rfl⟩ := trodAll_nil r1
  obtain rfl : args = #[v0, v1] := by cases args; simp_all
  obtain ⟨rfl, rfl⟩ := trodVars_none hV
  obtain ⟨s, rfl, rfl, rfl, w0⟩ := open_string Try.underlying9 (hval 0 9 v0 rfl rfl) h0
  obtain ⟨n, rfl, rfl, rfl, w1⟩ := open_int Try.underlying3 (hval 1 3 v1 rfl rfl) h1
  exact (walk s n W (short hk) (Law.wf_i64 w1)).mono fun e W' ⟨he, hb⟩ => ⟨_, he, Law.post hW' (by kernel_rfl) rfl rfl (by kernel_rfl) hb⟩

theorem proved : Rows.NameChecksUptoSaid :=
  OpenClaim.holds_of_cond 5 Try.f5 rfl rfl rfl rfl rfl rfl rfl ⟨rfl, rfl, rfl, rfl, rfl⟩ rfl rfl rfl rfl rfl (by kernel_rfl) Try.func5 (by kernel_rfl)
    (of_decide_eq_true (by kernel_rfl)) (by unfold Func.isWrapper; first | (rw [if_pos (by decide +kernel)]; kernel_rfl) | (rw [if_neg (by decide +kernel)]; exact ⟨rfl, rfl⟩))
    (fun os started H enc _ F => lifted os started H enc F)
#print axioms proved
end Go.Proofs.Ythppflfpghhnhaa.nameChecks
