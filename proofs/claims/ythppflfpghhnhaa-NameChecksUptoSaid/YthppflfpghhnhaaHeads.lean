/- NameHeads: of every text and every two numbers the first runes of the first runes are the fewer ones: no condition. -/
import Derived.Test.YthppflfpghhnhaaHash
import Derived.Test.YthppflfpghhnhaaLaw
import Derived.ShutString
namespace Go.Proofs.Ythppflfpghhnhaa.nameHeads
open Go.ChangeShapes Go.WideShapes Go.ChangeAt Go.RowKit Utf
open Go.ChangeMaps (open_string shut_string)

def headS (s : ByteArray) (n : Int) : ByteArray := if (runes s).isSome = false then ⟨#[]⟩ else if n < 0 then ⟨#[]⟩ else s.extract 0 (posAt s 0 n.toNat)
def headE (s : ByteArray) (n : Int) : Int := if (runes s).isSome = false then 5 else if n < 0 then 1 else 0

theorem head_any (s : ByteArray) (n : Int) (w : World) (hn : -9223372036854775808 ≤ n ∧ n ≤ 9223372036854775807) :
    Calls Try.prog 14 #[.string s, .int .i64 n] w fun e w' => e = .returned (.tuple #[.string (headS s n), .int .i64 (headE s n)]) ∧ Below w.heap.size w w' := by
  have hG := good_any s w
  cases hg : (runes s).isSome with
  | false =>
    have HV : Hid (headS s n = ⟨#[]⟩ ∧ headE s n = 5) := ⟨by unfold headS; rw [if_pos hg], by unfold headE; rw [if_pos hg]⟩
    rw [hg] at hG
    clear hg
    go_enter Try.func14, Try.ntmps14
    go_wp2_with (go_at_call 18; refine hG.mono ?_; rintro e w1 ⟨rfl, hb1⟩)
    go_ret2
    exact ⟨by rw [HV.out.1, HV.out.2]; rfl, hb1⟩
  | true =>
    obtain ⟨l, hl⟩ := Option.isSome_iff_exists.1 hg
    by_cases h0 : n < 0
    · have HV : Hid (headS s n = ⟨#[]⟩ ∧ headE s n = 1) := ⟨by unfold headS; rw [hg, if_neg (by decide), if_pos h0], by unfold headE; rw [hg, if_neg (by decide), if_pos h0]⟩
      rw [hg] at hG
      clear hg hl
      go_enter Try.func14, Try.ntmps14
      go_wp2_with (go_at_call 18; refine hG.mono ?_; rintro e w1 ⟨rfl, hb1⟩)
      go_ret2
      exact ⟨by rw [HV.out.1, HV.out.2]; rfl, hb1⟩
    · have HV : Hid (headS s n = s.extract 0 (posAt s 0 n.toNat) ∧ headE s n = 0) := ⟨by unfold headS; rw [hg, if_neg (by decide), if_neg h0], by unfold headE; rw [hg, if_neg (by decide), if_neg h0]⟩
      rw [hg] at hG
      clear hg
      have HL := Lib.hid hl
      clear hl
      obtain ⟨N, rfl⟩ := Int.eq_ofNat_of_zero_le (show 0 ≤ n by omega)
      rw [Int.toNat_natCast] at HV
      go_enter Try.func14, Try.ntmps14
      go_wp2_with (go_at_call 18; refine hG.mono ?_; rintro e w1 ⟨rfl, hb1⟩)
      go_loopw [1] (fun m wr => ∃ (pos k : Nat), wr = w1.iter s pos ∧ m = .int .i64 k ∧ k ≤ N ∧ pos ≤ s.size ∧ Hid ((∃ r, rest s pos = some r) ∧ posAt s pos k = posAt s 0 N)) (fun _ wr => s.size - wr.iterPos w1.heap.size)
      case atStart => exact ⟨0, N, rfl, rfl, Nat.le_refl _, Nat.zero_le _, ⟨l, HL.out⟩, rfl⟩
      case round =>
        obtain ⟨pos, k, rfl, rfl, hkN, hpos, HS⟩ := hrel
        by_cases hp : pos < s.size
        · have hnx : ∀ ty, (Instr.next (.pointer (some ⟨w1.heap.size, 0, none⟩)) true ty).run Try.prog (w1.iter s pos) = _ := fun ty => run_next_any w1 s pos ty hp
          have hwd := width_pos s pos hp
          obtain ⟨⟨r, hr⟩, hq⟩ := HS.out
          have hb := rest_good hr hp
          have hle := width_le s pos hp hb
          rcases Nat.eq_zero_or_pos k with hk | hk
          · have HE : Hid (posAt s 0 N = pos) := by show _ = _; rw [← hq, hk]; rfl
            have hk' : ((k : Int) == 0) = true := beq_iff_eq.2 (by omega)
            clear hr hb HS hq hk
            go_wp2_with fail
            go_ret2
            exact ⟨by rw [HV.out.1, HV.out.2, HE.out]; rfl, hb1.alloc hb1.size _⟩
          · obtain ⟨k, rfl⟩ : ∃ j, k = j + 1 := ⟨k - 1, by omega⟩
            have HR : Hid ((∃ r, rest s (pos + (Utf8.decode s pos).2) = some r) ∧ posAt s (pos + (Utf8.decode s pos).2) k = posAt s 0 N) := by
              refine ⟨?_, ?_⟩
              · rw [rest_step s pos hp hb] at hr
                obtain ⟨q, hq, _⟩ := Option.map_eq_some_iff.1 hr
                exact ⟨q, hq⟩
              · rw [← hq]
                simp only [posAt]
                rw [if_pos hp]
            have hk' : (((k + 1 : Nat) : Int) == 0) = false := beq_eq_false_iff_ne.2 (by omega)
            clear hr hb HS hq
            go_wp2_with fail
            go_roundw
            case rel => exact ⟨_, k, rfl, by go_num, by omega, hle, HR⟩
            case measure => simp; omega
        · have hnx : ∀ ty, (Instr.next (.pointer (some ⟨w1.heap.size, 0, none⟩)) true ty).run Try.prog (w1.iter s pos) = _ := fun ty => run_next_end w1 s pos ty hp
          have HE : Hid (s.extract 0 (posAt s 0 N) = s) := by
            show _ = _
            obtain ⟨⟨r, hr⟩, hq⟩ := HS.out
            have e : posAt s pos k = pos := by
              cases k with
              | zero => rfl
              | succ k => simp only [posAt]; rw [if_neg hp]
            rw [← hq, e, show pos = s.size by omega, extract_all]
          clear HS
          go_wp2_with fail
          go_ret2
          exact ⟨by rw [HV.out.1, HV.out.2, HE.out]; rfl, hb1.alloc hb1.size _⟩

theorem headS_ok (s : ByteArray) (n : Int) (hg : (runes s).isSome = true) (hn : ¬ n < 0) : headS s n = s.extract 0 (posAt s 0 n.toNat) := by unfold headS; rw [hg, if_neg (by decide), if_neg hn]
theorem heads_plain (s : ByteArray) (m n : Int) (h : headE s m = 0) :
    headE (headS s m) n = (if n < 0 then 1 else 0) ∧ (¬ n < 0 → headS (headS s m) n = headS s (if n < m then n else m) ∧ headE s (if n < m then n else m) = 0) := by
  have hg : (runes s).isSome = true := by
    cases hg : (runes s).isSome with
    | true => rfl
    | false => unfold headE at h; rw [if_pos hg] at h; cases h
  have hm : ¬ m < 0 := fun hm => by unfold headE at h; rw [hg, if_neg (by decide), if_pos hm] at h; cases h
  obtain ⟨l, hl⟩ := Option.isSome_iff_exists.1 hg
  have hp := posAt_le s m.toNat 0 l (Nat.zero_le _) hl
  have hpre := prefix_runes s (posAt s 0 m.toNat) hp.2 m.toNat 0 l (Nat.zero_le _) hl rfl
  have hS : headS s m = s.extract 0 (posAt s 0 m.toNat) := by unfold headS; rw [hg, if_neg (by decide), if_neg hm]
  have hg2 : (runes (headS s m)).isSome = true := by rw [hS, runes_rest, hpre.1]; rfl
  refine ⟨?_, fun hn => ?_⟩
  · unfold headE
    rw [hg2, if_neg (by decide)]
  · have hmn : ¬ (if n < m then n else m) < 0 := by split <;> omega
    refine ⟨?_, ?_⟩
    · have e2 : headS (headS s m) n = (headS s m).extract 0 (posAt (headS s m) 0 n.toNat) := headS_ok _ n hg2 hn
      have e3 : headS s (if n < m then n else m) = s.extract 0 (posAt s 0 (if n < m then n else m).toNat) := headS_ok s _ hg hmn
      rw [e2, e3, hS, hpre.2 n.toNat]
      have hmin : min m.toNat n.toNat = (if n < m then n else m).toNat := by split <;> omega
      rw [hmin]
      apply extract_extract
      have := hpre.2 n.toNat
      rw [hmin] at this
      rw [← this]
      have hz := size_extract s 0 _ hp.2
      have := posAt_le (s.extract 0 (posAt s 0 m.toNat)) n.toNat 0 _ (Nat.zero_le _) hpre.1
      omega
    · unfold headE
      rw [hg, if_neg (by decide), if_neg hmn]

theorem heads_bad (s : ByteArray) (m : Int) (h : headE s m ≠ 0) : headS s m = ⟨#[]⟩ := by
  unfold headE at h
  unfold headS
  split
  · rfl
  · rename_i hg
    rw [if_neg hg] at h
    split
    · rfl
    · rename_i hm; rw [if_neg hm] at h; exact absurd rfl h

theorem walk (s : ByteArray) (m n : Int) (w : World) (hm : -9223372036854775808 ≤ m ∧ m ≤ 9223372036854775807) (hn : -9223372036854775808 ≤ n ∧ n ≤ 9223372036854775807) :
    Calls Try.prog 6 #[.string s, .int .i64 m, .int .i64 n] w fun e w' => e = .returned (.bool true) ∧ Below w.heap.size w w' := by
  have c1 := fun w => head_any s m w hm
  by_cases he : headE s m = 0
  · have hp := heads_plain s m n he
    have c2 := fun w => head_any (headS s m) n w hn
    rw [he] at c1
    rw [hp.1] at c2
    by_cases hn0 : n < 0
    · rw [if_pos hn0] at c2
      generalize headS (headS s m) n = B at *
      generalize headS s m = A at *
      have C1 := Lib.hid c1
      have C2 := Lib.hid c2
      clear c1 c2 hp he
      go_enter Try.func6, Try.ntmps6
      go_wp2_with fail
      refine (C1.out _).mono ?_
      rintro e w1 ⟨rfl, hb1⟩
      go_wp2_with fail
      refine (C2.out _).mono ?_
      rintro e w2 ⟨rfl, hb2⟩
      go_wp2_with fail
      refine (awake_any _).mono ?_
      rintro e w3 ⟨rfl, hb3⟩
      go_wp2_with fail
      go_ret
      exact ⟨rfl, (hb1.trans (hb2.mono hb1.size)).trans (hb3.mono (Nat.le_trans hb1.size hb2.size))⟩
    · rw [if_neg hn0] at c2
      obtain ⟨p1, p2⟩ := hp.2 hn0
      have c3 := fun w => head_any s (if n < m then n else m) w (by split <;> assumption)
      rw [← p1, p2] at c3
      generalize headS (headS s m) n = B at *
      generalize headS s m = A at *
      have C1 := Lib.hid c1
      have C2 := Lib.hid c2
      by_cases hnm : n < m
      · rw [if_pos hnm] at c3
        have C3 := Lib.hid c3
        clear c1 c2 c3 hp he p1 p2
        go_enter Try.func6, Try.ntmps6
        go_wp2_with fail
        refine (C1.out _).mono ?_
        rintro e w1 ⟨rfl, hb1⟩
        go_wp2_with fail
        refine (C2.out _).mono ?_
        rintro e w2 ⟨rfl, hb2⟩
        go_wp2_with fail
        refine (C3.out _).mono ?_
        rintro e w3 ⟨rfl, hb3⟩
        go_wp2_with fail
        refine (awake_any _).mono ?_
        rintro e w4 ⟨rfl, hb4⟩
        go_wp2_with fail
        go_ret
        exact ⟨rfl, ((hb1.trans (hb2.mono hb1.size)).trans (hb3.mono (Nat.le_trans hb1.size hb2.size))).trans (hb4.mono (Nat.le_trans (Nat.le_trans hb1.size hb2.size) hb3.size))⟩
      · rw [if_neg hnm] at c3
        have C3 := Lib.hid c3
        clear c1 c2 c3 hp he p1 p2
        go_enter Try.func6, Try.ntmps6
        go_wp2_with fail
        refine (C1.out _).mono ?_
        rintro e w1 ⟨rfl, hb1⟩
        go_wp2_with fail
        refine (C2.out _).mono ?_
        rintro e w2 ⟨rfl, hb2⟩
        go_wp2_with fail
        refine (C3.out _).mono ?_
        rintro e w3 ⟨rfl, hb3⟩
        go_wp2_with fail
        refine (awake_any _).mono ?_
        rintro e w4 ⟨rfl, hb4⟩
        go_wp2_with fail
        go_ret
        exact ⟨rfl, ((hb1.trans (hb2.mono hb1.size)).trans (hb3.mono (Nat.le_trans hb1.size hb2.size))).trans (hb4.mono (Nat.le_trans (Nat.le_trans hb1.size hb2.size) hb3.size))⟩
  · rw [heads_bad s m he] at c1
    have he' : (headE s m != 0) = true := by rw [bne_iff_ne]; exact he
    generalize headE s m = E at *
    have C1 := Lib.hid c1
    clear c1 he
    go_enter Try.func6, Try.ntmps6
    go_wp2_with fail
    refine (C1.out _).mono ?_
    rintro e w1 ⟨rfl, hb1⟩
    go_wp2_with fail
    refine (awake_any _).mono ?_
    rintro e w2 ⟨rfl, hb2⟩
    go_wp2_with fail
    go_ret
    exact ⟨rfl, hb1.trans (hb2.mono hb1.size)⟩

set_option maxRecDepth 100000 in
theorem lifted (os : Os) (started : os.Started) (H : Type) (enc : TypeId × Value → H) :
    ReturnsInHanded {} Try.checked os 6 .any (Rows.nameHeadsSpec.pre6 enc Try.prog Try.f6 Rows.nameHeadsRow.domain false) (Rows.nameHeadsSpec.post enc Try.prog Try.f6 false true false false) := by
  refine returnsInHanded_of_change_sized (C := Try.checked) Law.own started (by kernel_rfl) Try.func6
    (ChangeSpec.witness6 (enc := enc) (C := Try.checked) false ⟨#[], #[.string ByteArray.empty, .int .i64 0, .int .i64 0], []⟩ 8 (by kernel_rfl) (by kernel_rfl) (by kernel_rfl) (by kernel_rfl)) ?_
  intro W base args ds gs before hval0 hW hcnd hsz _
  have hval : ∀ (j : Nat) t v, Try.f6.params[j]? = some t → args[j]? = some v → Value.okWide Try.prog W .any base t v := hval0
  have hW' := hW
  obtain ⟨p, q, hA0, hV, rfl, hfz, hnd⟩ := hW
  have hA : DataW.TrodAll enc Try.prog W 0 (fun _ => true) true Try.f6.params.toList args.toList ds p := hA0
  rw [Try.params6] at hA hval
  obtain ⟨v0, vs0, d0, ds0, p0, q0, hargs, rfl, rfl, h0, r0⟩ := trodAll_cons hA
  obtain ⟨v1, vs1, d1, ds1, p1, q1, rfl, rfl, rfl, h1, r1⟩ := trodAll_cons r0
  obtain ⟨v2, vs2, d2, ds2, p2, q2, rfl, rfl, rfl, h2, r2⟩ := trodAll_cons r1
  obtain ⟨rfl, rfl, rfl⟩ := trodAll_nil r2
  obtain rfl : args = #[v0, v1, v2] := by cases args; simp_all
  obtain ⟨rfl, rfl⟩ := trodVars_none hV
  obtain ⟨s, rfl, rfl, rfl, w0⟩ := open_string Try.underlying9 (hval 0 9 v0 rfl rfl) h0
  obtain ⟨m, rfl, rfl, rfl, w1⟩ := open_int Try.underlying3 (hval 1 3 v1 rfl rfl) h1
  obtain ⟨n, rfl, rfl, rfl, w2⟩ := open_int Try.underlying3 (hval 2 3 v2 rfl rfl) h2
  exact (walk s m n W (Law.wf_i64 w1) (Law.wf_i64 w2)).mono fun e W' ⟨he, hb⟩ => ⟨_, he, Law.post hW' (by kernel_rfl) rfl rfl (by kernel_rfl) hb⟩

theorem proved : Rows.NameHeadsSaid :=
  OpenClaim.holds_of_wide 6 Try.f6 rfl rfl rfl rfl rfl rfl rfl ⟨rfl, rfl, rfl, rfl, rfl⟩ rfl rfl rfl rfl rfl (by kernel_rfl) Try.func6 (by kernel_rfl)
    (of_decide_eq_true (by kernel_rfl)) (by unfold Func.isWrapper; first | (rw [if_pos (by decide +kernel)]; kernel_rfl) | (rw [if_neg (by decide +kernel)]; exact ⟨rfl, rfl⟩))
    (fun os started H enc _ => lifted os started H enc)
#print axioms proved
end Go.Proofs.Ythppflfpghhnhaa.nameHeads
