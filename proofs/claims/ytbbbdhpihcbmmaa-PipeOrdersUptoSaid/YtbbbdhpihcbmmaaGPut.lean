/- What the reference's put leaves, step by step. No program in sight (but for its name). The walk of the reference's put. -/
import Derived.Test.YtbbbdhpihcbmmaaGSized
import Derived.Test.YtbbbdhpihcbmmaaGBase
namespace Go.Proofs.Ytbbbdhpihcbmmaa
open Go.RowKit Own

theorem zeros_length (n : Nat) : (zeros n).length = n := by simp [zeros]
def padL (l : List UInt8) (n : Nat) : List UInt8 := l ++ zeros (n - l.length)
theorem padL_len (l : List UInt8) (n : Nat) : (padL l n).length = max l.length n := by
  simp only [padL, List.length_append, zeros_length]; omega
theorem padL_more {l : List UInt8} {n : Nat} (h : l.length < n) : padL (l ++ [0]) n = padL l n := by
  simp only [padL, List.length_append, List.length_cons, List.length_nil, List.append_assoc]
  congr 1
  rw [show n - l.length = (n - (l.length + (0 + 1))) + 1 by omega]
  rfl
theorem padL_done {l : List UInt8} {n : Nat} (h : n ≤ l.length) : padL l n = l := by
  simp only [padL, show n - l.length = 0 by omega]
  simp [zeros]
theorem zeros_at (n j : Nat) : (zeros n)[j]? = if j < n then some 0 else none := by
  unfold zeros
  rw [List.getElem?_replicate]
theorem padL_at (l : List UInt8) (n j : Nat) : (padL l n)[j]? = if j < l.length then l[j]? else if j < n then some 0 else none := by
  unfold padL
  by_cases h : j < l.length
  · rw [List.getElem?_append_left h, if_pos h]
  · rw [List.getElem?_append_right (by omega), zeros_at, if_neg h]
    by_cases h2 : j < n
    · rw [if_pos h2, if_pos (by omega)]
    · rw [if_neg h2, if_neg (by omega)]
def putI (b : List UInt8) (a : Nat) (d : List UInt8) : Nat → List UInt8
  | 0 => b
  | q + 1 => (padL (putI b a d q) (a + q + 1)).set (a + q) (d.getD q 0)
theorem putI_len (b : List UInt8) (a : Nat) (d : List UInt8) (q : Nat) : (putI b a d q).length = if q = 0 then b.length else max b.length (a + q) := by
  induction q with
  | zero => rfl
  | succ q ih =>
    simp only [putI, List.length_set, padL_len, ih, Nat.succ_ne_zero, if_false]
    split <;> omega
theorem putI_at (b : List UInt8) (a : Nat) (d : List UInt8) (q : Nat) (hq : q ≤ d.length) (j : Nat) : (putI b a d q)[j]? = if a ≤ j ∧ j < a + q then d[j - a]? else if j < b.length then b[j]? else if q ≠ 0 ∧ j < a + q then some 0 else none := by
  induction q generalizing j with
  | zero =>
    rw [if_neg (by omega)]
    by_cases h : j < b.length
    · rw [if_pos h]; rfl
    · rw [if_neg h, if_neg (by simp)]
      exact List.getElem?_eq_none (by simp only [putI]; omega)
  | succ q ih =>
    have hl := putI_len b a d q
    have ih := ih (by omega) j
    simp only [putI, List.getElem?_set, padL_len, padL_at]
    by_cases h1 : a + q = j
    · rw [if_pos h1, if_pos (by omega), if_pos (by omega)]
      rw [show j - a = q by omega, List.getD_eq_getElem?_getD, List.getElem?_eq_getElem (show q < d.length by omega)]
      rfl
    · rw [if_neg h1]
      by_cases h2 : j < (putI b a d q).length
      · rw [if_pos h2, ih]
        by_cases h3 : a ≤ j ∧ j < a + q
        · rw [if_pos h3, if_pos (show a ≤ j ∧ j < a + (q + 1) by omega)]
        · rw [if_neg h3, if_neg (show ¬ (a ≤ j ∧ j < a + (q + 1)) by omega)]
          by_cases h4 : j < b.length
          · rw [if_pos h4, if_pos h4]
          · rw [if_neg h4, if_neg h4]
            by_cases h5 : q = 0
            · rw [hl, if_pos h5] at h2; omega
            · rw [hl, if_neg h5] at h2
              rw [if_pos (show q ≠ 0 ∧ j < a + q by omega), if_pos (show q + 1 ≠ 0 ∧ j < a + (q + 1) by omega)]
      · rw [if_neg h2]
        have hb : ¬ j < b.length := by rw [hl] at h2; split at h2 <;> omega
        have hq2 : ¬ (q ≠ 0 ∧ j < a + q) := by rw [hl] at h2; split at h2 <;> omega
        rw [if_neg (show ¬ (a ≤ j ∧ j < a + (q + 1)) by
          intro h
          by_cases h5 : q = 0
          · omega
          · exact hq2 ⟨h5, by omega⟩), if_neg hb]
        by_cases h6 : j < a + q + 1
        · rw [if_pos h6, if_pos (show q + 1 ≠ 0 ∧ j < a + (q + 1) by omega)]
        · rw [if_neg h6, if_neg (show ¬ (q + 1 ≠ 0 ∧ j < a + (q + 1)) by omega)]
theorem sizedL_at (b : List UInt8) (n j : Nat) (h : b.length ≤ n) : (sizedL b n)[j]? = if j < b.length then b[j]? else if j < n then some 0 else none := by
  unfold sizedL
  split
  · have : n = b.length := by omega
    subst this
    rw [List.take_length]
    by_cases h2 : j < b.length
    · rw [if_pos h2]
    · rw [if_neg h2, if_neg h2]; exact List.getElem?_eq_none (by omega)
  · exact padL_at b n j
theorem putI_all (b : List UInt8) (a : Nat) (d : List UInt8) : putI b a d d.length = if d.length = 0 then b else writtenL b a d := by
  by_cases h0 : d.length = 0
  · rw [if_pos h0, h0]; rfl
  rw [if_neg h0]
  refine List.ext_getElem? fun j => ?_
  rw [putI_at b a d _ (Nat.le_refl _) j]
  unfold writtenL
  have hs := sizedL_len b (max b.length (a + d.length))
  have hat := fun j => sizedL_at b (max b.length (a + d.length)) j (Nat.le_max_left _ _)
  simp only []
  by_cases h1 : a ≤ j ∧ j < a + d.length
  · rw [if_pos h1, List.getElem?_append_left (by simp only [List.length_append, List.length_take, hs]; omega), List.getElem?_append_right (by simp only [List.length_take, hs]; omega)]
    congr 1
    simp only [List.length_take, hs]; omega
  · rw [if_neg h1]
    have hr : (if j < b.length then b[j]? else if d.length ≠ 0 ∧ j < a + d.length then some 0 else none) = (sizedL b (max b.length (a + d.length)))[j]? := by
      rw [hat]
      by_cases h2 : j < b.length
      · rw [if_pos h2, if_pos h2]
      · rw [if_neg h2, if_neg h2]
        by_cases h3 : j < a + d.length
        · rw [if_pos (by omega), if_pos (by omega)]
        · rw [if_neg (by omega), if_neg (by omega)]
    rw [hr]
    by_cases h2 : j < a
    · rw [List.append_assoc, List.getElem?_append_left (by simp only [List.length_take, hs]; omega), List.getElem?_take, if_pos h2]
    · rw [List.getElem?_append_right (by simp only [List.length_append, List.length_take, hs]; omega), List.getElem?_drop]
      congr 1
      simp only [List.length_append, List.length_take, hs]; omega
end Go.Proofs.Ytbbbdhpihcbmmaa
namespace Go.Proofs.Ytbbbdhpihcbmmaa
open Go.RowKit Own

def lenV : Value → Nat
  | .slice _ n _ => n
  | _ => 0

attribute [local go_sem ↓] hide_append
set_option maxHeartbeats 4000000 in
theorem rput_any (v u : Value) (b d : List UInt8) (a : Nat) (w : World) (hv : ReadsB w v b) (hu : ReadsB w u d) (hb : b.length ≤ 4096) (hd : d.length ≤ 4096) (ha : a ≤ 9223372036854775807) :
    Calls Try.prog 24 #[v, .int .i64 a, u] w (WrittenPost (writtenR b a d) w) := by
  obtain ⟨Au, cu, hue⟩ := hu.slice
  subst hue
  by_cases h1 : 4096 < a + d.length
  · have HR : Hid (writtenR b a d = none) := by show _ = _; unfold writtenR; rw [if_pos h1]
    rw [HR.out]
    obtain ⟨Av, cv, rfl⟩ := hv.slice
    by_cases h2 : 4096 < a
    · have k1 : (4096 : Int) < (a : Int) := by omega
      clear hv hu hb hd ha h1 h2
      go_enter Try.func24, Try.ntmps24
      go_wp2_with fail
      go_ret2
      exact ⟨rfl, Below.refl _ _⟩
    · have k1 : ¬ (4096 : Int) < (a : Int) := by omega
      have k2 : IntKind.i64.wrap ((a : Int) + (d.length : Int)) = (a : Int) + (d.length : Int) := by rw [IntKind.wrap_i64]; omega
      have k3 : (4096 : Int) < (a : Int) + (d.length : Int) := by omega
      clear hv hu hb hd ha h1 h2
      go_enter Try.func24, Try.ntmps24
      go_wp2_with fail
      go_ret2
      exact ⟨rfl, Below.refl _ _⟩
  · have HR : Hid (writtenR b a d = some (putI b a d d.length)) := by show _ = _; unfold writtenR; rw [if_neg h1, putI_all]
    rw [HR.out]
    obtain ⟨ov, wA, hap, hown, hbel⟩ := own_copy v b w hv (by omega)
    obtain ⟨Av, cv, rfl⟩ := hv.slice
    have k1 : ¬ (4096 : Int) < (a : Int) := by omega
    have k2 : IntKind.i64.wrap ((a : Int) + (d.length : Int)) = (a : Int) + (d.length : Int) := by rw [IntKind.wrap_i64]; omega
    have k3 : ¬ (4096 : Int) < (a : Int) + (d.length : Int) := by omega
    have HU := Lib.hid hu
    have HO := Lib.hid (And.intro hown hbel)
    have HN := Lib.hid (And.intro h1 (And.intro hb hd))
    obtain ⟨Ao, co, rfl⟩ := own_slice hown
    have hap2 : (appendH #[23, 23] 23 #[.slice (some ⟨w.heap.size, 0, none⟩) 0 0, .slice Av b.length cv]).run Try.prog (w.alloc (.cells #[] 5)) = _ := hap
    clear hv hu hb hd ha h1 hown hbel hap
    go_enter Try.func24, Try.ntmps24
    go_wp2_with fail
    clear k1 k2 k3 hap2
    go_loopw [8, 9] (fun x i wr => ∃ (q : Nat) (o : List UInt8), i = .int .i64 q ∧ q ≤ d.length ∧ Hid (o = putI b a d q) ∧ wr.ownsRow w.heap.size 5 1 x o.length (u8s o) ∧ Below w.heap.size w wr) (fun _ i _ => d.length - (intOf i).toNat)
    case atStart => exact ⟨0, b, rfl, Nat.zero_le _, rfl, HO.out.1, HO.out.2⟩
    case round =>
      obtain ⟨q, o, rfl, hq, HI, hown, hbel⟩ := hrel
      obtain ⟨wL, rfl⟩ : ∃ wo : World, wo = wr := ⟨_, rfl⟩
      obtain ⟨Ax, cx, rfl⟩ := own_slice hown
      by_cases hlt : q < d.length
      · have HW := Lib.hid (And.intro hown hbel)
        have hol : o.length ≤ 4096 := by
          have := HN.out
          have := putI_len b a d q
          rw [HI.out, this]; split <;> omega
        have HOl := Lib.hid hol
        have k0 : (q : Int) < (d.length : Int) := by omega
        clear hown hbel hol
        go_wp2_with fail
        clear k0
        go_loopw [8] (fun x wr => ∃ (o' : List UInt8), Hid (padL o' (a + q + 1) = padL o (a + q + 1) ∧ o'.length ≤ 4096) ∧ wr.ownsRow w.heap.size 5 1 x o'.length (u8s o') ∧ Below w.heap.size w wr) (fun x _ => a + q + 1 - lenV x)
        case atStart => exact ⟨o, ⟨rfl, HOl.out⟩, HW.out.1, HW.out.2⟩
        case round =>
          obtain ⟨o', HP, hown, hbel⟩ := hrel
          obtain ⟨wM, rfl⟩ : ∃ wo : World, wo = wr := ⟨_, rfl⟩
          obtain ⟨Ay, cy, rfl⟩ := own_slice hown
          have k2 : IntKind.i64.wrap ((a : Int) + (q : Int)) = (a : Int) + (q : Int) := by have := HN.out; rw [IntKind.wrap_i64]; omega
          by_cases hmore : o'.length ≤ a + q
          · have k4 : (o'.length : Int) ≤ (a : Int) + (q : Int) := by omega
            have HL := Lib.hid hmore
            have hol := HP.out.2
            clear hmore
            go_wp2_with (at_builtin; refine Own.append_one hown hbel Try.underlying23 infoByte rfl (by decide) [.int .u8 0] rfl (fun u hu => by simp at hu; subst hu; rfl) (Nat.le_refl _) hbel.size (by omega) (by omega) rfl rfl rfl rfl ?_; intro v1 w1 hown1 hbel1 _ _ _)
            obtain ⟨A1, c1, hv1⟩ := own_slice hown1
            subst hv1
            refine ⟨⟨o' ++ [0], Lib.hid ⟨?_, ?_⟩, ?_, hbel1⟩, ?_⟩
            · rw [padL_more (by have := HL.out; omega)]; exact HP.out.1
            · have := HL.out; have := HN.out; rw [List.length_append]; simp; omega
            · have e : u8s (o' ++ [0]) = u8s o' ++ [.int .u8 0] := by simp [u8s]
              rw [e, List.length_append]; exact hown1
            · have := HL.out; simp only [lenV]; omega
          · have k4 : ¬ (o'.length : Int) ≤ (a : Int) + (q : Int) := by omega
            have hL : a + q < o'.length := by omega
            have hpad : o' = padL o (a + q + 1) := by rw [← HP.out.1, padL_done (by omega)]
            obtain ⟨g, cap, hv1, hg, hgl, hcap, hat, hfr, _⟩ := own_reads hown (by omega)
            cases hv1
            obtain ⟨bd, od, cd2, hue, hud⟩ := ReadsB.at_ (HU.out.below hbel) (by omega)
            cases hue
            have hdq := hud q hlt
            have hcell := hat (a + q) hL
            have hcs : (u8s o')[a + q]? = some (.int .u8 ((o'[a + q]'hL).toNat : Int)) := by simp [u8s, hL]
            rw [hcs] at hcell
            have hf := hfr (a + q)
            have HX := Lib.hid (And.intro hown hbel)
            have HE : Hid (d[q]'hlt = d.getD q 0) := by show _ = _; rw [List.getD_eq_getElem?_getD, List.getElem?_eq_getElem hlt]; rfl
            have q0 : (0 : Int) ≤ (a : Int) + (q : Int) := by omega
            have q1 : (a : Int) + (q : Int) < (o'.length : Int) := by omega
            have q2 : ((a : Int) + (q : Int)).toNat = a + q := by omega
            have q3 : (q : Int) < (d.length : Int) := by omega
            have q4 : (0 : Int) ≤ (q : Int) := by omega
            have HL := Lib.hid (And.intro hL hpad)
            have HG : Hid (w.heap.size ≤ g) := hg
            have hdl9 := HN.out.2.2
            generalize d[q]'hlt = y at *
            generalize (o'[a + q]'hL) = y0 at *
            clear hown hbel hat hfr hud hL hpad hcs hg hgl hcap
            go_wp2_with fail
            go_roundw
            case rel =>
              refine ⟨q + 1, o'.set (a + q) y, by go_num, by omega, Lib.hid ?_, ?_, HX.out.2.setCell HG.out _⟩
              · rw [HL.out.2, HI.out, HE.out]; rfl
              · have e : u8s (o'.set (a + q) y) = (u8s o').set (a + q) (.int .u8 (y.toNat : Int)) := by simp [u8s, List.map_set]
                rw [e, List.length_set]; exact own_set HX.out.1 _
            case measure => simp [intOf]; omega
      · have k0 : ¬ (q : Int) < (d.length : Int) := by omega
        have HE : Hid (o = putI b a d d.length) := by
          have hqe : q = d.length := by omega
          rw [← hqe]; exact HI
        have HW := Lib.hid (And.intro hown hbel)
        clear hown hbel
        go_wp2_with fail
        go_ret2
        exact ⟨_, rfl, by rw [← HE.out]; exact OwnB.of_row HW.out.1, HW.out.2⟩
end Go.Proofs.Ytbbbdhpihcbmmaa
