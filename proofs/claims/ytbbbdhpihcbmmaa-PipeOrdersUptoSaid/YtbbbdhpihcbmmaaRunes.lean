/- The walk of the reference's Runes: the runes of a text, or none where it is no UTF-8. -/
import Derived.Test.YtbbbdhpihcbmmaaGood
import Derived.Test.YtbbbdhpihcbmmaaGBase
namespace Go.Proofs.Ytbbbdhpihcbmmaa
open Go.RowKit Utf

theorem tail_any (s : ByteArray) (j : Nat) (w : World) :
    Calls Try.prog 39 #[.string s, .int .i64 j] w fun e w' => e = .returned (.bool (tailB s j)) ∧ w = w' := by
  by_cases h1 : j < s.size
  · have hb := by_at s j h1
    have hbl := by_lt s j
    by_cases h2 : 128 ≤ by_ s j
    · have h2' : (128 : Int) ≤ ((s[j]'h1).toNat : Int) := by omega
      by_cases h3 : by_ s j < 192
      · have HV : Hid (tailB s j = true) := (tailB_iff _ _).2 ⟨h1, h2, h3⟩
        have h3' : ((s[j]'h1).toNat : Int) < 192 := by omega
        clear hb h2 h3 hbl
        go_enter Try.func39, Try.ntmps39
        go_wp2
        go_ret
        exact ⟨by rw [HV.out]; rfl, rfl⟩
      · have HV : Hid (tailB s j = false) := by show _ = _; rw [Bool.eq_false_iff]; intro h; exact h3 ((tailB_iff _ _).1 h).2.2
        have h3' : ¬ ((s[j]'h1).toNat : Int) < 192 := by omega
        clear hb h2 h3 hbl
        go_enter Try.func39, Try.ntmps39
        go_wp2
        go_ret
        exact ⟨by rw [HV.out]; rfl, rfl⟩
    · have HV : Hid (tailB s j = false) := by show _ = _; rw [Bool.eq_false_iff]; intro h; exact h2 ((tailB_iff _ _).1 h).2.1
      have h2' : ¬ (128 : Int) ≤ ((s[j]'h1).toNat : Int) := by omega
      clear hb h2 hbl
      go_enter Try.func39, Try.ntmps39
      go_wp2
      go_ret
      exact ⟨by rw [HV.out]; rfl, rfl⟩
  · have HV : Hid (tailB s j = false) := by show _ = _; rw [Bool.eq_false_iff]; intro h; exact h1 ((tailB_iff _ _).1 h).1
    go_enter Try.func39, Try.ntmps39
    go_wp2
    go_ret
    exact ⟨by rw [HV.out]; rfl, rfl⟩

theorem infoInt : (Try.prog.info? 3).map (fun i => (i.zero, i.size, i.bytes)) = some (some (.int .i64 0), 1, 8) := by kernel_rfl

def ints (l : List Nat) : List Value := l.map fun (n : Nat) => .int .i64 (n : Int)
/-- what Runes answers -/
def RunesPost (s : ByteArray) (w : World) (e : Ending) (w' : World) : Prop :=
  Below w.heap.size w w' ∧ ((runes s = none ∧ e = .returned (.tuple #[.slice none 0 0, .bool false])) ∨
    ∃ l v, runes s = some l ∧ e = .returned (.tuple #[v, .bool true]) ∧ w'.ownsRow w.heap.size 3 1 v l.length (ints l))

set_option maxRecDepth 100000 in
set_option maxHeartbeats 4000000 in
theorem runes_any (s : ByteArray) (w : World) (hs : s.size ≤ 1048576) :
    Calls Try.prog 30 #[.string s] w (RunesPost s w) := by
  go_enter Try.func30, Try.ntmps30
  go_wp2_with fail
  go_loopw [4, 5] (fun v i wr => ∃ (pos : Nat) (acc : List Nat), i = .int .i64 pos ∧ pos ≤ s.size ∧ acc.length ≤ pos ∧ wr.ownsRow w.heap.size 3 1 v acc.length (ints acc) ∧ Below w.heap.size w wr ∧
    Hid ((rest s pos).map (acc ++ ·) = runes s)) (fun _ i _ => s.size - (intOf i).toNat)
  case atStart =>
    exact ⟨0, [], rfl, Nat.zero_le _, Nat.zero_le _, World.ownsRow_made _ _ 0 (Nat.le_refl _) (by unfold maxLen; omega) rfl, (Below.refl _ _).alloc (Nat.le_refl _) _, by show _ = _; rw [← runes_rest]; simp⟩
  case round =>
    obtain ⟨pos, acc, rfl, hpos, hacc, hown, hbel, HS⟩ := hrel
    by_cases hp : pos < s.size
    · have hb := by_at s pos hp
      have hbl := by_lt s pos
      rcases (show by_ s pos < 128 ∨ (192 ≤ by_ s pos ∧ by_ s pos < 224) ∨ (224 ≤ by_ s pos ∧ by_ s pos < 240) ∨ (240 ≤ by_ s pos ∧ by_ s pos < 248) ∨ ((128 ≤ by_ s pos ∧ by_ s pos < 192) ∨ 248 ≤ by_ s pos) by omega) with c | c | c | c | c
      · obtain ⟨hcl, hle, hld⟩ := cls_1 c
        have HR := Lib.hid (ref_end s pos)
        have d1 : ((s[pos]'hp).toNat : Int) < 128 := by omega
        have hld' : ((lead (by_ s pos) : Nat) : Int) = ((s[pos]'hp).toNat : Int) := by omega
        have HD := Lib.hid hld'
        have hl32 : lead (by_ s pos) < 128 := by omega
        have HC := Lib.hid hcl
        have HL := Lib.hid hle
        clear hb hcl hle hld hld' c hbl
        go_wp2_with fail
        go_loop [6, 9] (fun c k => k = .int .i64 1 ∧ c = .int .i64 ((lead (by_ s pos) : Nat) : Int)) (fun _ k => 5 - (intOf k).toNat)
        case atStart => exact ⟨rfl, by rw [HD.out]⟩
        case round =>
          obtain ⟨rfl, rfl⟩ := hrel
          have hend := HR.out (by rw [HC.out]; omega) (by rw [HC.out]; intro j h1 h2; omega)
          rw [HC.out, Nat.sub_self, accN_0] at hend
          generalize lead (by_ s pos) = C at *
          clear HR HD hl32 HC
          cases hob : outB (by_ s pos) C with
          | true =>
            have HE : Hid (runes s = none) := by
              show _ = _
              rw [if_pos hob] at hend
              rw [← HS.out, rest_refused s pos hp hend]; rfl
            have ho := (outB_iff _ _).1 hob
            rw [HL.out] at ho
            clear hend hob
            by_cases q1 : (C : Int) < 0
            · clear ho
              go_wp2_with fail
              go_ret2
              exact ⟨hbel, .inl ⟨HE.out, rfl⟩⟩
            · by_cases q2 : (1114111 : Int) < C
              · clear ho
                go_wp2_with fail
                go_ret2
                exact ⟨hbel, .inl ⟨HE.out, rfl⟩⟩
              · have q3 : (55296 : Int) ≤ C := by omega
                have q4 : (C : Int) < 57344 := by omega
                clear ho
                go_wp2_with fail
                go_ret2
                exact ⟨hbel, .inl ⟨HE.out, rfl⟩⟩
          | false =>
            have ho : ¬ (C < least (by_ s pos) ∨ 1114111 < C ∨ (55296 ≤ C ∧ C < 57344)) := fun h => by rw [(outB_iff _ _).2 h] at hob; cases hob
            rw [HL.out] at ho
            rw [if_neg (by rw [hob]; decide)] at hend
            obtain ⟨t1, t2, t3⟩ := rest_taken s pos C 1 hp hend
            have HN : Hid ((rest s (pos + 1)).map ((acc ++ [C]) ++ ·) = runes s) := by
              show _ = _
              rw [← HS.out, t1, Option.map_map]
              congr 1
              funext l
              simp
            have q1 : ¬ (C : Int) < 0 := by omega
            have q2 : ¬ (1114111 : Int) < C := by omega
            clear hend hob t1 HS
            by_cases q3 : (55296 : Int) ≤ C
            · have q4 : ¬ (C : Int) < 57344 := by omega
              clear ho
              go_wp2_with (at_builtin; refine Own.append_one hown hbel Try.underlying67 infoInt rfl (by decide) [.int .i64 C] rfl (fun u hu => by simp at hu; subst hu; rfl) (Nat.le_refl _) hbel.size (by omega) (by omega) rfl rfl rfl rfl ?_; intro v1 w1 hown1 hbel1 _ _ _)
              go_roundw
              case rel => exact ⟨pos + 1, acc ++ [C], by go_num, t2, by simp; omega, by rw [List.length_append]; simpa [ints] using hown1, hbel1, HN⟩
              case measure => simp [intOf]; omega
            · clear ho
              go_wp2_with (at_builtin; refine Own.append_one hown hbel Try.underlying67 infoInt rfl (by decide) [.int .i64 C] rfl (fun u hu => by simp at hu; subst hu; rfl) (Nat.le_refl _) hbel.size (by omega) (by omega) rfl rfl rfl rfl ?_; intro v1 w1 hown1 hbel1 _ _ _)
              go_roundw
              case rel => exact ⟨pos + 1, acc ++ [C], by go_num, t2, by simp; omega, by rw [List.length_append]; simpa [ints] using hown1, hbel1, HN⟩
              case measure => simp [intOf]; omega
      · obtain ⟨hcl, hle, hld⟩ := cls_2 c
        have HR := Lib.hid (ref_end s pos)
        have HT := Lib.hid (ref_tail s pos)
        have d1 : (192 : Int) ≤ ((s[pos]'hp).toNat : Int) := by omega
        have d2 : ((s[pos]'hp).toNat : Int) < 224 := by omega
        have hld' : ((lead (by_ s pos) : Nat) : Int) = ((s[pos]'hp).toNat : Int) - 192 := by omega
        have HD := Lib.hid hld'
        have hl32 : lead (by_ s pos) < 32 := by omega
        have HC := Lib.hid hcl
        have HL := Lib.hid hle
        clear hb hcl hle hld hld' c hbl
        go_wp2_with fail
        go_loop [6, 9] (fun c k => ∃ m : Nat, k = .int .i64 ((m + 1 : Nat) : Int) ∧ c = .int .i64 ((accN s pos (lead (by_ s pos)) m : Nat) : Int) ∧ m + 1 ≤ 2 ∧ Hid (∀ j, 1 ≤ j → j ≤ m → tailB s (pos + j) = true)) (fun _ k => 5 - (intOf k).toNat)
        case atStart => exact ⟨0, rfl, by rw [accN_0, HD.out], by omega, fun j h1 h2 => by omega⟩
        case round =>
          obtain ⟨m, rfl, rfl, hm, HA⟩ := hrel
          have hbound := accN_lt s pos (lead (by_ s pos)) hl32 m (by omega) HA.out
          by_cases hmk : m + 1 < 2
          · cases ht : tailB s (pos + (m + 1)) with
            | true =>
              have hti := (tailB_iff _ _).1 ht
              have htl := hti.1
              have hbt := by_at s (pos + (m + 1)) htl
              have hA2 : Hid (∀ j, 1 ≤ j → j ≤ m + 1 → tailB s (pos + j) = true) := fun j h1 h2 => by
                rcases Nat.lt_or_ge m j with h | h
                · rw [show j = m + 1 by omega]; exact ht
                · exact HA.out j h1 h
              have e1 : accN s pos (lead (by_ s pos)) (m + 1) = accN s pos (lead (by_ s pos)) m * 64 + by_ s (pos + (m + 1)) - 128 := rfl
              have e2 : ((accN s pos (lead (by_ s pos)) (m + 1) : Nat) : Int) = ((accN s pos (lead (by_ s pos)) m : Nat) : Int) * 64 + ((s[pos + (m + 1)]'htl).toNat : Int) - 128 := by omega
              have E2 := Lib.hid e2
              have hT : ∀ w, Calls Try.prog 39 #[.string s, .int .i64 ((pos : Int) + ((m : Int) + 1))] w fun e w' => e = .returned (.bool true) ∧ w = w' := fun w => by
                have := tail_any s (pos + (m + 1)) w
                rw [ht] at this
                exact this
              have hT' := Lib.hid hT
              have hlow : (128 : Int) ≤ ((s[pos + (m + 1)]'htl).toNat : Int) := by omega
              have hhigh : ((s[pos + (m + 1)]'htl).toNat : Int) < 192 := by omega
              have hge := hti.2.1
              clear hbt ht hti e1 e2 hT hge
              go_wp2_with (go_at_call 39; refine (hT'.out _).mono ?_; rintro e w' ⟨rfl, rfl⟩)
              go_round
              case rel => exact ⟨m + 1, by go_num, by rw [E2.out], by omega, hA2⟩
              case measure => simp [intOf]; omega
            | false =>
              have HE : Hid (runes s = none) := by
                show _ = _
                rw [← HS.out, rest_refused s pos hp (HT.out (m + 1) (by omega) (by rw [HC.out]; exact hmk) ht)]; rfl
              have hT : ∀ w, Calls Try.prog 39 #[.string s, .int .i64 ((pos : Int) + ((m : Int) + 1))] w fun e w' => e = .returned (.bool false) ∧ w = w' := fun w => by
                have := tail_any s (pos + (m + 1)) w
                rw [ht] at this
                exact this
              have hT' := Lib.hid hT
              clear ht hT
              go_wp2_with (go_at_call 39; refine (hT'.out _).mono ?_; rintro e w' ⟨rfl, rfl⟩)
              go_ret2
              exact ⟨hbel, .inl ⟨HE.out, rfl⟩⟩
          · obtain rfl : m = 1 := by omega
            have hend := HR.out (by rw [HC.out]; omega) (by rw [HC.out]; exact HA.out)
            rw [HC.out] at hend
            generalize accN s pos (lead (by_ s pos)) 1 = C at *
            clear hmk hm HA HR HT HD hl32 HC
            cases hob : outB (by_ s pos) C with
            | true =>
              have HE : Hid (runes s = none) := by
                show _ = _
                rw [if_pos hob] at hend
                rw [← HS.out, rest_refused s pos hp hend]; rfl
              have ho := (outB_iff _ _).1 hob
              rw [HL.out] at ho
              clear hend hob
              by_cases q1 : (C : Int) < 128
              · clear ho
                go_wp2_with fail
                go_ret2
                exact ⟨hbel, .inl ⟨HE.out, rfl⟩⟩
              · by_cases q2 : (1114111 : Int) < C
                · clear ho
                  go_wp2_with fail
                  go_ret2
                  exact ⟨hbel, .inl ⟨HE.out, rfl⟩⟩
                · have q3 : (55296 : Int) ≤ C := by omega
                  have q4 : (C : Int) < 57344 := by omega
                  clear ho
                  go_wp2_with fail
                  go_ret2
                  exact ⟨hbel, .inl ⟨HE.out, rfl⟩⟩
            | false =>
              have ho : ¬ (C < least (by_ s pos) ∨ 1114111 < C ∨ (55296 ≤ C ∧ C < 57344)) := fun h => by rw [(outB_iff _ _).2 h] at hob; cases hob
              rw [HL.out] at ho
              rw [if_neg (by rw [hob]; decide)] at hend
              obtain ⟨t1, t2, t3⟩ := rest_taken s pos C 2 hp hend
              have HN : Hid ((rest s (pos + 2)).map ((acc ++ [C]) ++ ·) = runes s) := by
                show _ = _
                rw [← HS.out, t1, Option.map_map]
                congr 1
                funext l
                simp
              have q1 : ¬ (C : Int) < 128 := by omega
              have q2 : ¬ (1114111 : Int) < C := by omega
              clear hend hob t1 HS
              by_cases q3 : (55296 : Int) ≤ C
              · have q4 : ¬ (C : Int) < 57344 := by omega
                clear ho
                go_wp2_with (at_builtin; refine Own.append_one hown hbel Try.underlying67 infoInt rfl (by decide) [.int .i64 C] rfl (fun u hu => by simp at hu; subst hu; rfl) (Nat.le_refl _) hbel.size (by omega) (by omega) rfl rfl rfl rfl ?_; intro v1 w1 hown1 hbel1 _ _ _)
                go_roundw
                case rel => exact ⟨pos + 2, acc ++ [C], by go_num, t2, by simp; omega, by rw [List.length_append]; simpa [ints] using hown1, hbel1, HN⟩
                case measure => simp [intOf]; omega
              · clear ho
                go_wp2_with (at_builtin; refine Own.append_one hown hbel Try.underlying67 infoInt rfl (by decide) [.int .i64 C] rfl (fun u hu => by simp at hu; subst hu; rfl) (Nat.le_refl _) hbel.size (by omega) (by omega) rfl rfl rfl rfl ?_; intro v1 w1 hown1 hbel1 _ _ _)
                go_roundw
                case rel => exact ⟨pos + 2, acc ++ [C], by go_num, t2, by simp; omega, by rw [List.length_append]; simpa [ints] using hown1, hbel1, HN⟩
                case measure => simp [intOf]; omega
      · obtain ⟨hcl, hle, hld⟩ := cls_3 c
        have HR := Lib.hid (ref_end s pos)
        have HT := Lib.hid (ref_tail s pos)
        have d1 : (224 : Int) ≤ ((s[pos]'hp).toNat : Int) := by omega
        have d2 : ((s[pos]'hp).toNat : Int) < 240 := by omega
        have hld' : ((lead (by_ s pos) : Nat) : Int) = ((s[pos]'hp).toNat : Int) - 224 := by omega
        have HD := Lib.hid hld'
        have hl32 : lead (by_ s pos) < 32 := by omega
        have HC := Lib.hid hcl
        have HL := Lib.hid hle
        clear hb hcl hle hld hld' c hbl
        go_wp2_with fail
        go_loop [6, 9] (fun c k => ∃ m : Nat, k = .int .i64 ((m + 1 : Nat) : Int) ∧ c = .int .i64 ((accN s pos (lead (by_ s pos)) m : Nat) : Int) ∧ m + 1 ≤ 3 ∧ Hid (∀ j, 1 ≤ j → j ≤ m → tailB s (pos + j) = true)) (fun _ k => 5 - (intOf k).toNat)
        case atStart => exact ⟨0, rfl, by rw [accN_0, HD.out], by omega, fun j h1 h2 => by omega⟩
        case round =>
          obtain ⟨m, rfl, rfl, hm, HA⟩ := hrel
          have hbound := accN_lt s pos (lead (by_ s pos)) hl32 m (by omega) HA.out
          by_cases hmk : m + 1 < 3
          · cases ht : tailB s (pos + (m + 1)) with
            | true =>
              have hti := (tailB_iff _ _).1 ht
              have htl := hti.1
              have hbt := by_at s (pos + (m + 1)) htl
              have hA2 : Hid (∀ j, 1 ≤ j → j ≤ m + 1 → tailB s (pos + j) = true) := fun j h1 h2 => by
                rcases Nat.lt_or_ge m j with h | h
                · rw [show j = m + 1 by omega]; exact ht
                · exact HA.out j h1 h
              have e1 : accN s pos (lead (by_ s pos)) (m + 1) = accN s pos (lead (by_ s pos)) m * 64 + by_ s (pos + (m + 1)) - 128 := rfl
              have e2 : ((accN s pos (lead (by_ s pos)) (m + 1) : Nat) : Int) = ((accN s pos (lead (by_ s pos)) m : Nat) : Int) * 64 + ((s[pos + (m + 1)]'htl).toNat : Int) - 128 := by omega
              have E2 := Lib.hid e2
              have hT : ∀ w, Calls Try.prog 39 #[.string s, .int .i64 ((pos : Int) + ((m : Int) + 1))] w fun e w' => e = .returned (.bool true) ∧ w = w' := fun w => by
                have := tail_any s (pos + (m + 1)) w
                rw [ht] at this
                exact this
              have hT' := Lib.hid hT
              have hlow : (128 : Int) ≤ ((s[pos + (m + 1)]'htl).toNat : Int) := by omega
              have hhigh : ((s[pos + (m + 1)]'htl).toNat : Int) < 192 := by omega
              have hge := hti.2.1
              clear hbt ht hti e1 e2 hT hge
              go_wp2_with (go_at_call 39; refine (hT'.out _).mono ?_; rintro e w' ⟨rfl, rfl⟩)
              go_round
              case rel => exact ⟨m + 1, by go_num, by rw [E2.out], by omega, hA2⟩
              case measure => simp [intOf]; omega
            | false =>
              have HE : Hid (runes s = none) := by
                show _ = _
                rw [← HS.out, rest_refused s pos hp (HT.out (m + 1) (by omega) (by rw [HC.out]; exact hmk) ht)]; rfl
              have hT : ∀ w, Calls Try.prog 39 #[.string s, .int .i64 ((pos : Int) + ((m : Int) + 1))] w fun e w' => e = .returned (.bool false) ∧ w = w' := fun w => by
                have := tail_any s (pos + (m + 1)) w
                rw [ht] at this
                exact this
              have hT' := Lib.hid hT
              clear ht hT
              go_wp2_with (go_at_call 39; refine (hT'.out _).mono ?_; rintro e w' ⟨rfl, rfl⟩)
              go_ret2
              exact ⟨hbel, .inl ⟨HE.out, rfl⟩⟩
          · obtain rfl : m = 2 := by omega
            have hend := HR.out (by rw [HC.out]; omega) (by rw [HC.out]; exact HA.out)
            rw [HC.out] at hend
            generalize accN s pos (lead (by_ s pos)) 2 = C at *
            clear hmk hm HA HR HT HD hl32 HC
            cases hob : outB (by_ s pos) C with
            | true =>
              have HE : Hid (runes s = none) := by
                show _ = _
                rw [if_pos hob] at hend
                rw [← HS.out, rest_refused s pos hp hend]; rfl
              have ho := (outB_iff _ _).1 hob
              rw [HL.out] at ho
              clear hend hob
              by_cases q1 : (C : Int) < 2048
              · clear ho
                go_wp2_with fail
                go_ret2
                exact ⟨hbel, .inl ⟨HE.out, rfl⟩⟩
              · by_cases q2 : (1114111 : Int) < C
                · clear ho
                  go_wp2_with fail
                  go_ret2
                  exact ⟨hbel, .inl ⟨HE.out, rfl⟩⟩
                · have q3 : (55296 : Int) ≤ C := by omega
                  have q4 : (C : Int) < 57344 := by omega
                  clear ho
                  go_wp2_with fail
                  go_ret2
                  exact ⟨hbel, .inl ⟨HE.out, rfl⟩⟩
            | false =>
              have ho : ¬ (C < least (by_ s pos) ∨ 1114111 < C ∨ (55296 ≤ C ∧ C < 57344)) := fun h => by rw [(outB_iff _ _).2 h] at hob; cases hob
              rw [HL.out] at ho
              rw [if_neg (by rw [hob]; decide)] at hend
              obtain ⟨t1, t2, t3⟩ := rest_taken s pos C 3 hp hend
              have HN : Hid ((rest s (pos + 3)).map ((acc ++ [C]) ++ ·) = runes s) := by
                show _ = _
                rw [← HS.out, t1, Option.map_map]
                congr 1
                funext l
                simp
              have q1 : ¬ (C : Int) < 2048 := by omega
              have q2 : ¬ (1114111 : Int) < C := by omega
              clear hend hob t1 HS
              by_cases q3 : (55296 : Int) ≤ C
              · have q4 : ¬ (C : Int) < 57344 := by omega
                clear ho
                go_wp2_with (at_builtin; refine Own.append_one hown hbel Try.underlying67 infoInt rfl (by decide) [.int .i64 C] rfl (fun u hu => by simp at hu; subst hu; rfl) (Nat.le_refl _) hbel.size (by omega) (by omega) rfl rfl rfl rfl ?_; intro v1 w1 hown1 hbel1 _ _ _)
                go_roundw
                case rel => exact ⟨pos + 3, acc ++ [C], by go_num, t2, by simp; omega, by rw [List.length_append]; simpa [ints] using hown1, hbel1, HN⟩
                case measure => simp [intOf]; omega
              · clear ho
                go_wp2_with (at_builtin; refine Own.append_one hown hbel Try.underlying67 infoInt rfl (by decide) [.int .i64 C] rfl (fun u hu => by simp at hu; subst hu; rfl) (Nat.le_refl _) hbel.size (by omega) (by omega) rfl rfl rfl rfl ?_; intro v1 w1 hown1 hbel1 _ _ _)
                go_roundw
                case rel => exact ⟨pos + 3, acc ++ [C], by go_num, t2, by simp; omega, by rw [List.length_append]; simpa [ints] using hown1, hbel1, HN⟩
                case measure => simp [intOf]; omega
      · obtain ⟨hcl, hle, hld⟩ := cls_4 c
        have HR := Lib.hid (ref_end s pos)
        have HT := Lib.hid (ref_tail s pos)
        have d1 : (240 : Int) ≤ ((s[pos]'hp).toNat : Int) := by omega
        have d2 : ((s[pos]'hp).toNat : Int) < 248 := by omega
        have hld' : ((lead (by_ s pos) : Nat) : Int) = ((s[pos]'hp).toNat : Int) - 240 := by omega
        have HD := Lib.hid hld'
        have hl32 : lead (by_ s pos) < 32 := by omega
        have HC := Lib.hid hcl
        have HL := Lib.hid hle
        clear hb hcl hle hld hld' c hbl
        go_wp2_with fail
        go_loop [6, 9] (fun c k => ∃ m : Nat, k = .int .i64 ((m + 1 : Nat) : Int) ∧ c = .int .i64 ((accN s pos (lead (by_ s pos)) m : Nat) : Int) ∧ m + 1 ≤ 4 ∧ Hid (∀ j, 1 ≤ j → j ≤ m → tailB s (pos + j) = true)) (fun _ k => 5 - (intOf k).toNat)
        case atStart => exact ⟨0, rfl, by rw [accN_0, HD.out], by omega, fun j h1 h2 => by omega⟩
        case round =>
          obtain ⟨m, rfl, rfl, hm, HA⟩ := hrel
          have hbound := accN_lt s pos (lead (by_ s pos)) hl32 m (by omega) HA.out
          by_cases hmk : m + 1 < 4
          · cases ht : tailB s (pos + (m + 1)) with
            | true =>
              have hti := (tailB_iff _ _).1 ht
              have htl := hti.1
              have hbt := by_at s (pos + (m + 1)) htl
              have hA2 : Hid (∀ j, 1 ≤ j → j ≤ m + 1 → tailB s (pos + j) = true) := fun j h1 h2 => by
                rcases Nat.lt_or_ge m j with h | h
                · rw [show j = m + 1 by omega]; exact ht
                · exact HA.out j h1 h
              have e1 : accN s pos (lead (by_ s pos)) (m + 1) = accN s pos (lead (by_ s pos)) m * 64 + by_ s (pos + (m + 1)) - 128 := rfl
              have e2 : ((accN s pos (lead (by_ s pos)) (m + 1) : Nat) : Int) = ((accN s pos (lead (by_ s pos)) m : Nat) : Int) * 64 + ((s[pos + (m + 1)]'htl).toNat : Int) - 128 := by omega
              have E2 := Lib.hid e2
              have hT : ∀ w, Calls Try.prog 39 #[.string s, .int .i64 ((pos : Int) + ((m : Int) + 1))] w fun e w' => e = .returned (.bool true) ∧ w = w' := fun w => by
                have := tail_any s (pos + (m + 1)) w
                rw [ht] at this
                exact this
              have hT' := Lib.hid hT
              have hlow : (128 : Int) ≤ ((s[pos + (m + 1)]'htl).toNat : Int) := by omega
              have hhigh : ((s[pos + (m + 1)]'htl).toNat : Int) < 192 := by omega
              have hge := hti.2.1
              clear hbt ht hti e1 e2 hT hge
              go_wp2_with (go_at_call 39; refine (hT'.out _).mono ?_; rintro e w' ⟨rfl, rfl⟩)
              go_round
              case rel => exact ⟨m + 1, by go_num, by rw [E2.out], by omega, hA2⟩
              case measure => simp [intOf]; omega
            | false =>
              have HE : Hid (runes s = none) := by
                show _ = _
                rw [← HS.out, rest_refused s pos hp (HT.out (m + 1) (by omega) (by rw [HC.out]; exact hmk) ht)]; rfl
              have hT : ∀ w, Calls Try.prog 39 #[.string s, .int .i64 ((pos : Int) + ((m : Int) + 1))] w fun e w' => e = .returned (.bool false) ∧ w = w' := fun w => by
                have := tail_any s (pos + (m + 1)) w
                rw [ht] at this
                exact this
              have hT' := Lib.hid hT
              clear ht hT
              go_wp2_with (go_at_call 39; refine (hT'.out _).mono ?_; rintro e w' ⟨rfl, rfl⟩)
              go_ret2
              exact ⟨hbel, .inl ⟨HE.out, rfl⟩⟩
          · obtain rfl : m = 3 := by omega
            have hend := HR.out (by rw [HC.out]; omega) (by rw [HC.out]; exact HA.out)
            rw [HC.out] at hend
            generalize accN s pos (lead (by_ s pos)) 3 = C at *
            clear hmk hm HA HR HT HD hl32 HC
            cases hob : outB (by_ s pos) C with
            | true =>
              have HE : Hid (runes s = none) := by
                show _ = _
                rw [if_pos hob] at hend
                rw [← HS.out, rest_refused s pos hp hend]; rfl
              have ho := (outB_iff _ _).1 hob
              rw [HL.out] at ho
              clear hend hob
              by_cases q1 : (C : Int) < 65536
              · clear ho
                go_wp2_with fail
                go_ret2
                exact ⟨hbel, .inl ⟨HE.out, rfl⟩⟩
              · by_cases q2 : (1114111 : Int) < C
                · clear ho
                  go_wp2_with fail
                  go_ret2
                  exact ⟨hbel, .inl ⟨HE.out, rfl⟩⟩
                · have q3 : (55296 : Int) ≤ C := by omega
                  have q4 : (C : Int) < 57344 := by omega
                  clear ho
                  go_wp2_with fail
                  go_ret2
                  exact ⟨hbel, .inl ⟨HE.out, rfl⟩⟩
            | false =>
              have ho : ¬ (C < least (by_ s pos) ∨ 1114111 < C ∨ (55296 ≤ C ∧ C < 57344)) := fun h => by rw [(outB_iff _ _).2 h] at hob; cases hob
              rw [HL.out] at ho
              rw [if_neg (by rw [hob]; decide)] at hend
              obtain ⟨t1, t2, t3⟩ := rest_taken s pos C 4 hp hend
              have HN : Hid ((rest s (pos + 4)).map ((acc ++ [C]) ++ ·) = runes s) := by
                show _ = _
                rw [← HS.out, t1, Option.map_map]
                congr 1
                funext l
                simp
              have q1 : ¬ (C : Int) < 65536 := by omega
              have q2 : ¬ (1114111 : Int) < C := by omega
              clear hend hob t1 HS
              by_cases q3 : (55296 : Int) ≤ C
              · have q4 : ¬ (C : Int) < 57344 := by omega
                clear ho
                go_wp2_with (at_builtin; refine Own.append_one hown hbel Try.underlying67 infoInt rfl (by decide) [.int .i64 C] rfl (fun u hu => by simp at hu; subst hu; rfl) (Nat.le_refl _) hbel.size (by omega) (by omega) rfl rfl rfl rfl ?_; intro v1 w1 hown1 hbel1 _ _ _)
                go_roundw
                case rel => exact ⟨pos + 4, acc ++ [C], by go_num, t2, by simp; omega, by rw [List.length_append]; simpa [ints] using hown1, hbel1, HN⟩
                case measure => simp [intOf]; omega
              · exfalso; omega
      · have HE : Hid (runes s = none) := by
          show _ = _
          rw [← HS.out, rest_refused s pos hp (ref_none s pos (cls_0 c))]; rfl
        have hc2 : (128 : Int) ≤ ((s[pos]'hp).toNat : Int) := by omega
        have hc5 : ((s[pos]'hp).toNat : Int) < 256 := by omega
        by_cases c2 : ((s[pos]'hp).toNat : Int) < 192
        · clear hb c hbl
          go_wp2_with fail
          go_ret2
          exact ⟨hbel, .inl ⟨HE.out, rfl⟩⟩
        · have c3 : (248 : Int) ≤ ((s[pos]'hp).toNat : Int) := by omega
          clear hb c hbl
          go_wp2_with fail
          go_ret2
          exact ⟨hbel, .inl ⟨HE.out, rfl⟩⟩
    · have HE : Hid (runes s = some acc) := by
        show _ = _
        rw [← HS.out, rest_end s pos hp]; simp
      clear HS
      go_wp2_with fail
      go_ret2
      exact ⟨hbel, .inr ⟨acc, _, HE.out, rfl, hown⟩⟩
#print axioms runes_any
end Go.Proofs.Ytbbbdhpihcbmmaa
